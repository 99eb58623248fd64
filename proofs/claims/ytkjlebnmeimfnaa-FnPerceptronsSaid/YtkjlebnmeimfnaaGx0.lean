import Derived.Test.YtkjlebnmeimfnaaGxN
namespace Go.Abs
open Go.Proofs

noncomputable def s_laws_vBig (code : (List Int)) : Sc Try.prog (Bool) :=
  .go <|
  .go <|
  .ret [] [] (decide (((ln c_Y code) : Int) > 65536))
noncomputable def m_laws_vBig (code : (List Int)) : Option (Bool) := den (s_laws_vBig code)
theorem ok_laws_vBig (code : (List Int)) : ∀ r, m_laws_vBig code = some r → CallOK Try.prog n_laws_vBig [T.one (V.arr 1 (List.map c_Y code))] [] (T.one (V.bool r)) [] :=
  fun r h => fnOK mixed (G := fun r => (T.one (V.bool r), [])) (by kernel_rfl) r h

def spec_l1Cur_next_j0_S (c_ : ((List Int) × Int × Int)) : St := ⟨mkSl 62 [(0, T.one (V.ptr 1000 1 0 0)), (2, T.one (V.int .i64 0)), (3, T.one (V.int .i64 0))], [(1000, Ob.mk 1 (some (Con.mk 91 3 false [[V.arr 1 (List.map c_Y c_.1), V.int .i64 c_.2.1, V.int .u64 c_.2.2]])))]⟩
def spec_l1Cur_next_j0_X0 (c_ : ((List Int) × Int × Int)) (b : Int) : St := ⟨mkSl 62 [(0, T.one (V.ptr 1000 1 0 0)), (2, T.one (V.int .i64 0)), (3, T.one (V.int .i64 b))], [(1000, Ob.mk 1 (some (Con.mk 91 3 false [[V.arr 1 (List.map c_Y c_.1), V.int .i64 c_.2.1, V.int .u64 c_.2.2]])))]⟩
def spec_l1Cur_next_j0_G (c_ : ((List Int) × Int × Int)) : Int → AExit × St
  | d => (.normal, spec_l1Cur_next_j0_X0 c_ d)
noncomputable def spec_l1Cur_next_j0 (c_ : ((List Int) × Int × Int)) : Sc Try.prog Int :=
  .go <|
  .brc (decide ((c_.2.1 : Int) < (ln c_Y c_.1)))
  (get 8 c_Y c_.1 c_.2.1 fun x1 =>
  .go <|
  .ret [0, 2, 3] [1000] (w64 x1))
  (.ret [0, 2, 3] [1000] 0)
noncomputable def m_spec_l1Cur_next_j0 (c_ : ((List Int) × Int × Int)) : Option Int := den (spec_l1Cur_next_j0 c_)
theorem ok_spec_l1Cur_next_j0 (c_ : ((List Int) × Int × Int)) (d : Int) (h : m_spec_l1Cur_next_j0 c_ = some d) : ExecOK Try.prog (codeOf Try.prog n_spec_l1Cur_next [1, 1, 0]) (spec_l1Cur_next_j0_S c_) (spec_l1Cur_next_j0_G c_ d).1 (spec_l1Cur_next_j0_G c_ d).2 :=
  codeOK mixed (G := spec_l1Cur_next_j0_G c_) (by kernel_rfl) d h
noncomputable def s_spec_l1Cur_next (c_ : ((List Int) × Int × Int)) : Sc Try.prog (Int × ((List Int) × Int × Int)) :=
  .go <|
  .go <|
  .at_ 1 <|
  lp (ok_spec_l1Cur_next_j0 c_) [0, 2, 3] [1000] fun x2 =>
  .go <|
  .go <|
  .go <|
  .brc (decide (((w64 (c_.2.1 + 1)) : Int) ≤ (ln c_Y c_.1)))
  (.go <|
  .ret [] [1000] (x2, (c_.1, (w64 (c_.2.1 + 1)), (wu64 ((wu64 ((wu64 (c_.2.2 * 6364136223846793005)) + (wu64 x2))) + 462197)))))
  (need (0 ≤ (40 : Int)) <|
  .go <|
  .ret [] [1000] ((w64 (iAnd .u64 (iShr .u64 (wu64 ((wu64 ((wu64 (c_.2.2 * 6364136223846793005)) + (wu64 x2))) + 462197)) 40) 255)), (c_.1, (w64 (c_.2.1 + 1)), (wu64 ((wu64 ((wu64 (c_.2.2 * 6364136223846793005)) + (wu64 x2))) + 462197)))))
noncomputable def m_spec_l1Cur_next (c_ : ((List Int) × Int × Int)) : Option (Int × ((List Int) × Int × Int)) := den (s_spec_l1Cur_next c_)
theorem ok_spec_l1Cur_next (c_ : ((List Int) × Int × Int)) : ∀ r, m_spec_l1Cur_next c_ = some r → CallOK Try.prog n_spec_l1Cur_next [T.one (V.ptr 1000 1 0 0)] [Ob.mk 1 (some (Con.mk 91 3 false [c_P3_LY_I_U c_]))] (T.one (V.int .i64 r.1)) [Ob.mk 1 (some (Con.mk 91 3 false [c_P3_LY_I_U r.2]))] :=
  fun r h => fnOK mixed (G := fun r => (T.one (V.int .i64 r.1), [Ob.mk 1 (some (Con.mk 91 3 false [c_P3_LY_I_U r.2]))])) (by kernel_rfl) r h

noncomputable def s_spec_l1Cur_pick (c_ : ((List Int) × Int × Int)) (n : Int) : Sc Try.prog (Int × ((List Int) × Int × Int)) :=
  .go <|
  .go <|
  .brc (decide ((n : Int) ≤ 1))
  (.go <|
  .ret [] [1000] (0, c_))
  (call 1 (ok_spec_l1Cur_next c_) [] [] [1000] [] fun x1 =>
  .go <|
  .go <|
  .brc (decide ((n : Int) > 200))
  (call 3 (ok_spec_l1Cur_next x1.2) [] [] [1000] [] fun x2 =>
  .go <|
  need ((n : Int) ≠ 0) <|
  .go <|
  .ret [] [1000] ((Int.tmod (w64 ((w64 (x1.1 * 256)) + x2.1)) n), x2.2))
  (need ((n : Int) ≠ 0) <|
  .go <|
  .ret [] [1000] ((Int.tmod x1.1 n), x1.2)))
noncomputable def m_spec_l1Cur_pick (c_ : ((List Int) × Int × Int)) (n : Int) : Option (Int × ((List Int) × Int × Int)) := den (s_spec_l1Cur_pick c_ n)
theorem ok_spec_l1Cur_pick (c_ : ((List Int) × Int × Int)) (n : Int) : ∀ r, m_spec_l1Cur_pick c_ n = some r → CallOK Try.prog n_spec_l1Cur_pick [T.one (V.ptr 1000 1 0 0), T.one (V.int .i64 n)] [Ob.mk 1 (some (Con.mk 91 3 false [c_P3_LY_I_U c_]))] (T.one (V.int .i64 r.1)) [Ob.mk 1 (some (Con.mk 91 3 false [c_P3_LY_I_U r.2]))] :=
  fun r h => fnOK mixed (G := fun r => (T.one (V.int .i64 r.1), [Ob.mk 1 (some (Con.mk 91 3 false [c_P3_LY_I_U r.2]))])) (by kernel_rfl) r h

noncomputable def s_spec_l1Cur_among (c_ : ((List Int) × Int × Int)) (list : (List Int)) : Sc Try.prog (Int × ((List Int) × Int × Int)) :=
  .go <|
  call 4 (ok_spec_l1Cur_pick c_ (ln c_I list)) [] [] [1000] [] fun x1 =>
  get 5 c_I list x1.1 fun x2 =>
  .go <|
  .ret [] [1000] (x2, x1.2)
noncomputable def m_spec_l1Cur_among (c_ : ((List Int) × Int × Int)) (list : (List Int)) : Option (Int × ((List Int) × Int × Int)) := den (s_spec_l1Cur_among c_ list)
theorem ok_spec_l1Cur_among (c_ : ((List Int) × Int × Int)) (list : (List Int)) : ∀ r, m_spec_l1Cur_among c_ list = some r → CallOK Try.prog n_spec_l1Cur_among [T.one (V.ptr 1000 1 0 0), T.one (V.arr 1 (List.map c_I list))] [Ob.mk 1 (some (Con.mk 91 3 false [c_P3_LY_I_U c_]))] (T.one (V.int .i64 r.1)) [Ob.mk 1 (some (Con.mk 91 3 false [c_P3_LY_I_U r.2]))] :=
  fun r h => fnOK mixed (G := fun r => (T.one (V.int .i64 r.1), [Ob.mk 1 (some (Con.mk 91 3 false [c_P3_LY_I_U r.2]))])) (by kernel_rfl) r h

noncomputable def s_spec_l1Cur_space (c_ : ((List Int) × Int × Int)) : Sc Try.prog (Int × ((List Int) × Int × Int)) :=
  .go <|
  chs 1 .tree <|
  call 2 (ok_spec_l1Cur_among c_ ([2, 2, 3, 1, 2, 4] : List Int)) [] [] [1000] [] fun x1 =>
  .go <|
  .ret [] [1000] x1
noncomputable def m_spec_l1Cur_space (c_ : ((List Int) × Int × Int)) : Option (Int × ((List Int) × Int × Int)) := den (s_spec_l1Cur_space c_)
theorem ok_spec_l1Cur_space (c_ : ((List Int) × Int × Int)) : ∀ r, m_spec_l1Cur_space c_ = some r → CallOK Try.prog n_spec_l1Cur_space [T.one (V.ptr 1000 1 0 0)] [Ob.mk 1 (some (Con.mk 91 3 false [c_P3_LY_I_U c_]))] (T.one (V.int .i64 r.1)) [Ob.mk 1 (some (Con.mk 91 3 false [c_P3_LY_I_U r.2]))] :=
  fun r h => fnOK mixed (G := fun r => (T.one (V.int .i64 r.1), [Ob.mk 1 (some (Con.mk 91 3 false [c_P3_LY_I_U r.2]))])) (by kernel_rfl) r h

noncomputable def s_spec_l1Least (a : Int) (b : Int) : Sc Try.prog (Int) :=
  .go <|
  .go <|
  .brc (decide ((a : Int) < b))
  (.go <|
  .ret [] [] a)
  (.go <|
  .ret [] [] b)
noncomputable def m_spec_l1Least (a : Int) (b : Int) : Option (Int) := den (s_spec_l1Least a b)
theorem ok_spec_l1Least (a : Int) (b : Int) : ∀ r, m_spec_l1Least a b = some r → CallOK Try.prog n_spec_l1Least [T.one (V.int .i64 a), T.one (V.int .i64 b)] [] (T.one (V.int .i64 r)) [] :=
  fun r h => fnOK mixed (G := fun r => (T.one (V.int .i64 r), [])) (by kernel_rfl) r h

def spec_l1Cur_plane_l0_S (d_ : Int) (x1 : Int × ((List Int) × Int × Int)) (o900 : (List Int)) (o1000 : (List Int)) (o10001 : Int) (o10002 : Int) (i : Int) : St := ⟨mkSl 67 [(0, T.one (V.ptr 1000 1 0 0)), (1, T.one (V.int .i64 d_)), (4, T.one (V.ptr 4 1 0 0)), (5, T.one (V.ptr 5 1 0 0)), (6, T.one (V.int .i64 x1.1)), (7, T.one (V.int .i64 i))], [(1000, Ob.mk 1 (some (Con.mk 91 3 false [[V.arr 1 (List.map c_Y o1000), V.int .i64 o10001, V.int .u64 o10002]]))), (4, Ob.mk 1 (some (Con.mk 28 2 false [[V.nil, V.int .i64 0]]))), (5, Ob.mk 1 (some (Con.mk 28 2 false [[V.ref 900 1, V.int .i64 0]]))), (900, Ob.mk 1 (some (Con.mk 3 1 true (List.map c_I o900))))]⟩
def spec_l1Cur_plane_l0_X0 (d_ : Int) (x1 : Int × ((List Int) × Int × Int)) (o900 : (List Int)) (o1000 : (List Int)) (o10001 : Int) (o10002 : Int) : St := ⟨mkSl 67 [(0, T.one (V.ptr 1000 1 0 0)), (1, T.one (V.int .i64 d_)), (4, T.one (V.ptr 4 1 0 0)), (5, T.one (V.ptr 5 1 0 0)), (6, T.one (V.int .i64 x1.1))], [(1000, Ob.mk 1 (some (Con.mk 91 3 false [[V.arr 1 (List.map c_Y o1000), V.int .i64 o10001, V.int .u64 o10002]]))), (4, Ob.mk 1 (some (Con.mk 28 2 false [[V.nil, V.int .i64 0]]))), (5, Ob.mk 1 (some (Con.mk 28 2 false [[V.ref 900 1, V.int .i64 0]]))), (900, Ob.mk 1 (some (Con.mk 3 1 true (List.map c_I o900))))]⟩
def spec_l1Cur_plane_l0_G (d_ : Int) (x1 : Int × ((List Int) × Int × Int)) : ((List Int) × (List Int) × Int × Int × Int) ⊕ ((List Int) × (List Int) × Int × Int) → AExit × St
  | .inl s => (.normal, spec_l1Cur_plane_l0_S d_ x1 s.1 s.2.1 s.2.2.1 s.2.2.2.1 s.2.2.2.2)
  | .inr d => ((.exit 0), spec_l1Cur_plane_l0_X0 d_ x1 d.1 d.2.1 d.2.2.1 d.2.2.2)
noncomputable def spec_l1Cur_plane_l0 (d_ : Int) (x1 : Int × ((List Int) × Int × Int)) (o900 : (List Int)) (o1000 : (List Int)) (o10001 : Int) (o10002 : Int) (i : Int) : Sc Try.prog (((List Int) × (List Int) × Int × Int × Int) ⊕ ((List Int) × (List Int) × Int × Int)) :=
  .go <|
  .brc (decide ((i : Int) < d_))
  (call 6 (ok_spec_l1Cur_pick (o1000, o10001, o10002) (w64 ((w64 (2 * x1.1)) + 1))) [] [] [1000] [] fun x2 =>
  chs 9 .tree <|
  app 10 c_I 8 o900 ([(w64 (x2.1 - x1.1))] : List Int) <|
  .go <|
  .go <|
  .ret [0, 1, 4, 5, 6, 7] [1000, 4, 5, 900] (.inl ((o900 ++ ([(w64 (x2.1 - x1.1))] : List Int)), x2.2.1, x2.2.2.1, x2.2.2.2, (w64 (i + 1)))))
  (.ret [0, 1, 4, 5, 6] [1000, 4, 5, 900] (.inr (o900, o1000, o10001, o10002)))
noncomputable def m_spec_l1Cur_plane_l0 (d_ : Int) (x1 : Int × ((List Int) × Int × Int)) (s : ((List Int) × (List Int) × Int × Int × Int)) : Option ((List Int) × (List Int) × Int × Int) := lrun (fun s => den (spec_l1Cur_plane_l0 d_ x1 s.1 s.2.1 s.2.2.1 s.2.2.2.1 s.2.2.2.2)) s
theorem ok_spec_l1Cur_plane_l0 (d_ : Int) (x1 : Int × ((List Int) × Int × Int)) (s : ((List Int) × (List Int) × Int × Int × Int)) (d : ((List Int) × (List Int) × Int × Int)) (h : m_spec_l1Cur_plane_l0 d_ x1 s = some d) : ExecOK Try.prog (.loop (bodyOf Try.prog n_spec_l1Cur_plane 0)) (spec_l1Cur_plane_l0_S d_ x1 s.1 s.2.1 s.2.2.1 s.2.2.2.1 s.2.2.2.2) (spec_l1Cur_plane_l0_G d_ x1 (.inr d)).1 (spec_l1Cur_plane_l0_G d_ x1 (.inr d)).2 :=
  loopOK mixed (G := spec_l1Cur_plane_l0_G d_ x1) (sc := fun s => spec_l1Cur_plane_l0 d_ x1 s.1 s.2.1 s.2.2.1 s.2.2.2.1 s.2.2.2.2) (fun s => by kernel_rfl) (fun _ => rfl) (fun d => rfl) s d h
noncomputable def s_spec_l1Cur_plane (c_ : ((List Int) × Int × Int)) (d_ : Int) : Sc Try.prog (((List Int) × Int) × ((List Int) × Int × Int)) :=
  .go <|
  chs 0 (.own [(0, 900, 3, 1)]) <|
  chs 2 .tree <|
  call 3 (ok_spec_l1Cur_among c_ ([1, 3, 5, 20] : List Int)) [] [] [1000] [] fun x1 =>
  .go <|
  .go <|
  lp (ok_spec_l1Cur_plane_l0 d_ x1 ([], x1.2.1, x1.2.2.1, x1.2.2.2, 0)) [0, 1, 4, 5, 6, 7] [1000, 4, 5, 900] fun x3 =>
  call 4 (ok_spec_l1Cur_pick x3.2 (w64 ((w64 (2 * x1.1)) + 3))) [] [] [1000] [] fun x4 =>
  .go <|
  call 1 (ok_spec_l1Cur_pick x4.2 60) [] [] [1000] [] fun x5 =>
  .go <|
  .go <|
  .brc ((x5.1 : Int) == 0)
  (chs 1 .tree <|
  call 2 (ok_spec_l1Cur_among x5.2 ([99, (-99), 100, (-100), 4611686018427387904] : List Int)) [] [] [1000] [] fun x6 =>
  .go <|
  .go <|
  .ret [900] [1000] ((x3.1, x6.1), x6.2))
  (.go <|
  .brc ((x5.1 : Int) == 1)
  (.go <|
  .brc (decide ((d_ : Int) > 0))
  (call 4 (ok_spec_l1Cur_pick x5.2 d_) [] [] [1000] [] fun x7 =>
  chs 6 .tree <|
  call 7 (ok_spec_l1Cur_among x7.2 ([99, (-99), 100, (-100)] : List Int)) [] [] [1000] [] fun x8 =>
  idx c_I x3.1 x7.1 <|
  upd 9 c_I x3.1 (Int.toNat x7.1) (fun _ => x8.1) fun x9 =>
  .go <|
  .go <|
  .ret [900] [1000] (((List.set x3.1 (Int.toNat x7.1) x8.1), (w64 ((w64 (x4.1 - x1.1)) - 1))), x8.2))
  (.go <|
  .ret [900] [1000] ((x3.1, (w64 ((w64 (x4.1 - x1.1)) - 1))), x5.2)))
  (.go <|
  .brc ((x5.1 : Int) == 2)
  (chs 2 .tree <|
  app 3 c_I 8 x3.1 ([1] : List Int) <|
  .go <|
  .go <|
  .ret [900] [1000] (((x3.1 ++ ([1] : List Int)), (w64 ((w64 (x4.1 - x1.1)) - 1))), x5.2))
  (.go <|
  .ret [900] [1000] ((x3.1, (w64 ((w64 (x4.1 - x1.1)) - 1))), x5.2))))
noncomputable def m_spec_l1Cur_plane (c_ : ((List Int) × Int × Int)) (d_ : Int) : Option (((List Int) × Int) × ((List Int) × Int × Int)) := den (s_spec_l1Cur_plane c_ d_)
theorem ok_spec_l1Cur_plane (c_ : ((List Int) × Int × Int)) (d_ : Int) : ∀ r, m_spec_l1Cur_plane c_ d_ = some r → CallOK Try.prog n_spec_l1Cur_plane [T.one (V.ptr 1000 1 0 0), T.one (V.int .i64 d_)] [Ob.mk 1 (some (Con.mk 91 3 false [c_P3_LY_I_U c_]))] (T.agg (c_P2_LI_I r.1)) [Ob.mk 1 (some (Con.mk 91 3 false [c_P3_LY_I_U r.2]))] :=
  fun r h => fnOK mixed (G := fun r => (T.agg (c_P2_LI_I r.1), [Ob.mk 1 (some (Con.mk 91 3 false [c_P3_LY_I_U r.2]))])) (by kernel_rfl) r h

noncomputable def s_spec_l1Cur_one (c_ : ((List Int) × Int × Int)) (n : Int) : Sc Try.prog (Bool × ((List Int) × Int × Int)) :=
  .go <|
  call 2 (ok_spec_l1Cur_pick c_ n) [] [] [1000] [] fun x1 =>
  .go <|
  .ret [] [1000] (((x1.1 : Int) == 0), x1.2)
noncomputable def m_spec_l1Cur_one (c_ : ((List Int) × Int × Int)) (n : Int) : Option (Bool × ((List Int) × Int × Int)) := den (s_spec_l1Cur_one c_ n)
theorem ok_spec_l1Cur_one (c_ : ((List Int) × Int × Int)) (n : Int) : ∀ r, m_spec_l1Cur_one c_ n = some r → CallOK Try.prog n_spec_l1Cur_one [T.one (V.ptr 1000 1 0 0), T.one (V.int .i64 n)] [Ob.mk 1 (some (Con.mk 91 3 false [c_P3_LY_I_U c_]))] (T.one (V.bool r.1)) [Ob.mk 1 (some (Con.mk 91 3 false [c_P3_LY_I_U r.2]))] :=
  fun r h => fnOK mixed (G := fun r => (T.one (V.bool r.1), [Ob.mk 1 (some (Con.mk 91 3 false [c_P3_LY_I_U r.2]))])) (by kernel_rfl) r h

def spec_l1Cur_point_l0_S (d_ : Int) (x1 : Int × ((List Int) × Int × Int)) (o8 : (List Int)) (o1000 : (List Int)) (o10001 : Int) (o10002 : Int) (i : Int) : St := ⟨mkSl 47 [(0, T.one (V.ptr 1000 1 0 0)), (1, T.one (V.int .i64 d_)), (4, T.one (V.ref 900 1)), (5, T.one (V.ref 8 1)), (6, T.one (V.int .i64 x1.1)), (7, T.one (V.int .i64 i))], [(1000, Ob.mk 1 (some (Con.mk 91 3 false [[V.arr 1 (List.map c_Y o1000), V.int .i64 o10001, V.int .u64 o10002]]))), (900, Ob.mk 1 (some (Con.mk 3 1 true (List.map c_I [])))), (8, Ob.mk 1 (some (Con.mk 3 1 true (List.map c_I o8))))]⟩
def spec_l1Cur_point_l0_X0 (d_ : Int) (x1 : Int × ((List Int) × Int × Int)) (o8 : (List Int)) (o1000 : (List Int)) (o10001 : Int) (o10002 : Int) : St := ⟨mkSl 47 [(0, T.one (V.ptr 1000 1 0 0)), (1, T.one (V.int .i64 d_)), (4, T.one (V.ref 900 1)), (5, T.one (V.ref 8 1))], [(1000, Ob.mk 1 (some (Con.mk 91 3 false [[V.arr 1 (List.map c_Y o1000), V.int .i64 o10001, V.int .u64 o10002]]))), (900, Ob.mk 1 (some (Con.mk 3 1 true (List.map c_I [])))), (8, Ob.mk 1 (some (Con.mk 3 1 true (List.map c_I o8))))]⟩
def spec_l1Cur_point_l0_G (d_ : Int) (x1 : Int × ((List Int) × Int × Int)) : ((List Int) × (List Int) × Int × Int × Int) ⊕ ((List Int) × (List Int) × Int × Int) → AExit × St
  | .inl s => (.normal, spec_l1Cur_point_l0_S d_ x1 s.1 s.2.1 s.2.2.1 s.2.2.2.1 s.2.2.2.2)
  | .inr d => ((.exit 0), spec_l1Cur_point_l0_X0 d_ x1 d.1 d.2.1 d.2.2.1 d.2.2.2)
noncomputable def spec_l1Cur_point_l0 (d_ : Int) (x1 : Int × ((List Int) × Int × Int)) (o8 : (List Int)) (o1000 : (List Int)) (o10001 : Int) (o10002 : Int) (i : Int) : Sc Try.prog (((List Int) × (List Int) × Int × Int × Int) ⊕ ((List Int) × (List Int) × Int × Int)) :=
  .go <|
  .brc (decide ((i : Int) < d_))
  (call 5 (ok_spec_l1Cur_pick (o1000, o10001, o10002) (w64 ((w64 (2 * x1.1)) + 1))) [] [] [1000] [] fun x2 =>
  chs 8 .tree <|
  app 9 c_I 8 o8 ([(w64 (x2.1 - x1.1))] : List Int) <|
  .go <|
  .go <|
  .ret [0, 1, 4, 5, 6, 7] [1000, 900, 8] (.inl ((o8 ++ ([(w64 (x2.1 - x1.1))] : List Int)), x2.2.1, x2.2.2.1, x2.2.2.2, (w64 (i + 1)))))
  (.ret [0, 1, 4, 5] [1000, 900, 8] (.inr (o8, o1000, o10001, o10002)))
noncomputable def m_spec_l1Cur_point_l0 (d_ : Int) (x1 : Int × ((List Int) × Int × Int)) (s : ((List Int) × (List Int) × Int × Int × Int)) : Option ((List Int) × (List Int) × Int × Int) := lrun (fun s => den (spec_l1Cur_point_l0 d_ x1 s.1 s.2.1 s.2.2.1 s.2.2.2.1 s.2.2.2.2)) s
theorem ok_spec_l1Cur_point_l0 (d_ : Int) (x1 : Int × ((List Int) × Int × Int)) (s : ((List Int) × (List Int) × Int × Int × Int)) (d : ((List Int) × (List Int) × Int × Int)) (h : m_spec_l1Cur_point_l0 d_ x1 s = some d) : ExecOK Try.prog (.loop (bodyOf Try.prog n_spec_l1Cur_point 0)) (spec_l1Cur_point_l0_S d_ x1 s.1 s.2.1 s.2.2.1 s.2.2.2.1 s.2.2.2.2) (spec_l1Cur_point_l0_G d_ x1 (.inr d)).1 (spec_l1Cur_point_l0_G d_ x1 (.inr d)).2 :=
  loopOK mixed (G := spec_l1Cur_point_l0_G d_ x1) (sc := fun s => spec_l1Cur_point_l0 d_ x1 s.1 s.2.1 s.2.2.1 s.2.2.2.1 s.2.2.2.2) (fun s => by kernel_rfl) (fun _ => rfl) (fun d => rfl) s d h
def spec_l1Cur_point_j0_S (d_ : Int) (x3 : ((List Int) × (List Int) × Int × Int)) : St := ⟨mkSl 47 [(0, T.one (V.ptr 1000 1 0 0)), (1, T.one (V.int .i64 d_)), (4, T.one (V.ref 900 1)), (5, T.one (V.ref 8 1))], [(1000, Ob.mk 1 (some (Con.mk 91 3 false [[V.arr 1 (List.map c_Y x3.2.1), V.int .i64 x3.2.2.1, V.int .u64 x3.2.2.2]]))), (900, Ob.mk 1 (some (Con.mk 3 1 true (List.map c_I [])))), (8, Ob.mk 1 (some (Con.mk 3 1 true (List.map c_I x3.1))))]⟩
def spec_l1Cur_point_j0_X0 (d_ : Int) (x3 : ((List Int) × (List Int) × Int × Int)) (o8 : (List Int)) (o1000 : (List Int)) (o10001 : Int) (o10002 : Int) : St := ⟨mkSl 47 [(0, T.one (V.ptr 1000 1 0 0)), (4, T.one (V.ref 900 1)), (5, T.one (V.ref 8 1))], [(1000, Ob.mk 1 (some (Con.mk 91 3 false [[V.arr 1 (List.map c_Y o1000), V.int .i64 o10001, V.int .u64 o10002]]))), (900, Ob.mk 1 (some (Con.mk 3 1 true (List.map c_I [])))), (8, Ob.mk 1 (some (Con.mk 3 1 true (List.map c_I o8))))]⟩
def spec_l1Cur_point_j0_G (d_ : Int) (x3 : ((List Int) × (List Int) × Int × Int)) : ((List Int) × (List Int) × Int × Int) → AExit × St
  | d => (.normal, spec_l1Cur_point_j0_X0 d_ x3 d.1 d.2.1 d.2.2.1 d.2.2.2)
noncomputable def spec_l1Cur_point_j0 (d_ : Int) (x3 : ((List Int) × (List Int) × Int × Int)) : Sc Try.prog ((List Int) × (List Int) × Int × Int) :=
  .br 2 (decide ((d_ : Int) > 0))
  (call 4 (ok_spec_l1Cur_one x3.2 60) [] [] [1000] [] fun x4 =>
  .go <|
  .brc x4.1
  (call 3 (ok_spec_l1Cur_pick x4.2 d_) [] [] [1000] [] fun x5 =>
  chs 5 .tree <|
  call 6 (ok_spec_l1Cur_among x5.2 ([10, (-10), 9, (-9), 4611686018427387904] : List Int)) [] [] [1000] [] fun x6 =>
  idx c_I x3.1 x5.1 <|
  upd 8 c_I x3.1 (Int.toNat x5.1) (fun _ => x6.1) fun x7 =>
  .go <|
  .ret [0, 4, 5] [1000, 900, 8] ((List.set x3.1 (Int.toNat x5.1) x6.1), x6.2.1, x6.2.2.1, x6.2.2.2))
  (.ret [0, 4, 5] [1000, 900, 8] (x3.1, x4.2.1, x4.2.2.1, x4.2.2.2)))
  (.go <|
  .brk false <|
  .ret [0, 4, 5] [1000, 900, 8] (x3.1, x3.2.1, x3.2.2.1, x3.2.2.2))
noncomputable def m_spec_l1Cur_point_j0 (d_ : Int) (x3 : ((List Int) × (List Int) × Int × Int)) : Option ((List Int) × (List Int) × Int × Int) := den (spec_l1Cur_point_j0 d_ x3)
theorem ok_spec_l1Cur_point_j0 (d_ : Int) (x3 : ((List Int) × (List Int) × Int × Int)) (d : ((List Int) × (List Int) × Int × Int)) (h : m_spec_l1Cur_point_j0 d_ x3 = some d) : ExecOK Try.prog (codeOf Try.prog n_spec_l1Cur_point [1, 1, 1, 0]) (spec_l1Cur_point_j0_S d_ x3) (spec_l1Cur_point_j0_G d_ x3 d).1 (spec_l1Cur_point_j0_G d_ x3 d).2 :=
  codeOK mixed (G := spec_l1Cur_point_j0_G d_ x3) (by kernel_rfl) d h
noncomputable def s_spec_l1Cur_point (c_ : ((List Int) × Int × Int)) (d_ : Int) : Sc Try.prog ((List Int) × ((List Int) × Int × Int)) :=
  chs 0 (.own [(0, 900, 3, 1)]) <|
  .go <|
  chs 2 .tree <|
  call 3 (ok_spec_l1Cur_among c_ ([2, 3, 5, 9] : List Int)) [] [] [1000] [] fun x1 =>
  .go <|
  .go <|
  lp (ok_spec_l1Cur_point_l0 d_ x1 ([], x1.2.1, x1.2.2.1, x1.2.2.2, 0)) [0, 1, 4, 5, 6, 7] [1000, 900, 8] fun x3 =>
  .at_ 1 <|
  lp (ok_spec_l1Cur_point_j0 d_ x3) [0, 1, 4, 5] [1000, 900, 8] fun x8 =>
  call 1 (ok_spec_l1Cur_one x8.2 80) [] [] [1000] [] fun x9 =>
  .go <|
  .brc x9.1
  (chs 1 .tree <|
  app 2 c_I 8 x8.1 ([0] : List Int) <|
  .go <|
  .go <|
  .ret [8] [1000] ((x8.1 ++ ([0] : List Int)), x9.2))
  (.go <|
  .ret [8] [1000] (x8.1, x9.2))
noncomputable def m_spec_l1Cur_point (c_ : ((List Int) × Int × Int)) (d_ : Int) : Option ((List Int) × ((List Int) × Int × Int)) := den (s_spec_l1Cur_point c_ d_)
theorem ok_spec_l1Cur_point (c_ : ((List Int) × Int × Int)) (d_ : Int) : ∀ r, m_spec_l1Cur_point c_ d_ = some r → CallOK Try.prog n_spec_l1Cur_point [T.one (V.ptr 1000 1 0 0), T.one (V.int .i64 d_)] [Ob.mk 1 (some (Con.mk 91 3 false [c_P3_LY_I_U c_]))] (T.one (V.arr 1 (List.map c_I r.1))) [Ob.mk 1 (some (Con.mk 91 3 false [c_P3_LY_I_U r.2]))] :=
  fun r h => fnOK mixed (G := fun r => (T.one (V.arr 1 (List.map c_I r.1)), [Ob.mk 1 (some (Con.mk 91 3 false [c_P3_LY_I_U r.2]))])) (by kernel_rfl) r h

noncomputable def s_spec_l1In (x_ : Int) (a : Int) (b : Int) : Sc Try.prog (Bool) :=
  .go <|
  .br 3 (decide ((x_ : Int) ≥ a))
  (.go <|
  .ret [] [] (decide ((x_ : Int) ≤ b)))
  (.go <|
  .ret [] [] false)
noncomputable def m_spec_l1In (x_ : Int) (a : Int) (b : Int) : Option (Bool) := den (s_spec_l1In x_ a b)
theorem ok_spec_l1In (x_ : Int) (a : Int) (b : Int) : ∀ r, m_spec_l1In x_ a b = some r → CallOK Try.prog n_spec_l1In [T.one (V.int .i64 x_), T.one (V.int .i64 a), T.one (V.int .i64 b)] [] (T.one (V.bool r)) [] :=
  fun r h => fnOK mixed (G := fun r => (T.one (V.bool r), [])) (by kernel_rfl) r h

def spec_l2Numbers_l0_S (list : (List Int)) (most : Int) (i : Int) : St := ⟨mkSl 21 [(0, T.one (V.arr 1 (List.map c_I list))), (1, T.one (V.int .i64 most)), (4, T.one (V.bool false)), (5, T.one (V.int .i64 i))], []⟩
def spec_l2Numbers_l0_X0 (list : (List Int)) (most : Int) : St := ⟨mkSl 21 [(4, T.one (V.bool false))], []⟩
def spec_l2Numbers_l0_X1 (list : (List Int)) (most : Int) : St := ⟨mkSl 21 [(4, T.one (V.bool false))], []⟩
def spec_l2Numbers_l0_G (list : (List Int)) (most : Int) : Int ⊕ (Unit ⊕ Unit) → AExit × St
  | .inl s => (.normal, spec_l2Numbers_l0_S list most s)
  | .inr (.inl d) => (.ret, spec_l2Numbers_l0_X0 list most)
  | .inr (.inr d) => ((.exit 0), spec_l2Numbers_l0_X1 list most)
noncomputable def spec_l2Numbers_l0 (list : (List Int)) (most : Int) (i : Int) : Sc Try.prog (Int ⊕ (Unit ⊕ Unit)) :=
  .go <|
  .brc (decide ((i : Int) < (ln c_I list)))
  (get 2 c_I list i fun x1 =>
  call 7 (ok_spec_l1In x1 (w64 (0 - most)) most) [] [] [] [] fun x2 =>
  .go <|
  .brc (!x2)
  (.go <|
  .ret [4] [] (.inr (.inl ())))
  (.go <|
  .ret [0, 1, 4, 5] [] (.inl (w64 (i + 1)))))
  (.ret [4] [] (.inr (.inr ())))
noncomputable def m_spec_l2Numbers_l0 (list : (List Int)) (most : Int) (s : Int) : Option (Unit ⊕ Unit) := lrun (fun s => den (spec_l2Numbers_l0 list most s)) s
theorem ok_spec_l2Numbers_l0 (list : (List Int)) (most : Int) (s : Int) (d : (Unit ⊕ Unit)) (h : m_spec_l2Numbers_l0 list most s = some d) : ExecOK Try.prog (.loop (bodyOf Try.prog n_spec_l2Numbers 0)) (spec_l2Numbers_l0_S list most s) (spec_l2Numbers_l0_G list most (.inr d)).1 (spec_l2Numbers_l0_G list most (.inr d)).2 :=
  loopOK mixed (G := spec_l2Numbers_l0_G list most) (sc := fun s => spec_l2Numbers_l0 list most s) (fun s => by kernel_rfl) (fun _ => rfl) (fun d => by rcases d with d | d <;> rfl) s d h
noncomputable def s_spec_l2Numbers (list : (List Int)) (most : Int) : Sc Try.prog (Bool) :=
  .go <|
  .go <|
  lp2 (ok_spec_l2Numbers_l0 list most 0) [0, 1, 4, 5] []
  (fun x3 =>
  .ret [] [] false)
  (fun x4 =>
  .go <|
  .ret [] [] true)
noncomputable def m_spec_l2Numbers (list : (List Int)) (most : Int) : Option (Bool) := den (s_spec_l2Numbers list most)
theorem ok_spec_l2Numbers (list : (List Int)) (most : Int) : ∀ r, m_spec_l2Numbers list most = some r → CallOK Try.prog n_spec_l2Numbers [T.one (V.arr 1 (List.map c_I list)), T.one (V.int .i64 most)] [] (T.one (V.bool r)) [] :=
  fun r h => fnOK mixed (G := fun r => (T.one (V.bool r), [])) (by kernel_rfl) r h

end Go.Abs
