import Derived.Test.YtkjlebnmeimfnaaGxN
import Derived.Test.YtkjlebnmeimfnaaGx0
import Derived.Test.YtkjlebnmeimfnaaGx1
import Derived.Test.YtkjlebnmeimfnaaGx2
import Derived.Test.YtkjlebnmeimfnaaGx3
import Derived.Test.YtkjlebnmeimfnaaGx5
namespace Go.Abs
open Go.Proofs

def spec_PlaneOfCounts_l1_S (s_ : ((List (List Int)) × (List Int))) (counts : (List Int)) (out1 : Int) (i : Int) (o322 : (List Int)) (k : Int) : St := ⟨mkSl 102 [(1, T.one (V.arr 1 (List.map c_I counts))), (2, T.one (V.ptr 2 1 0 0)), (4, T.one (V.ptr 4 1 0 0)), (5, T.one (V.bool false)), (6, T.one (V.ptr 6 1 0 0)), (7, T.one (V.int .i64 i)), (8, T.one (V.int .i64 k))], [(2, Ob.mk 1 (some (Con.mk 31 2 false [[V.arr 1 (List.map c_LI s_.1), V.arr 1 (List.map c_I s_.2)]]))), (4, Ob.mk 1 (some (Con.mk 28 2 false [[V.nil, V.int .i64 0]]))), (6, Ob.mk 1 (some (Con.mk 28 2 false [[V.ref 32 1, V.int .i64 out1]]))), (32, Ob.mk 1 (some (Con.mk 3 1 true (List.map c_I o322))))]⟩
def spec_PlaneOfCounts_l1_X0 (s_ : ((List (List Int)) × (List Int))) (counts : (List Int)) (out1 : Int) (i : Int) (o322 : (List Int)) : St := ⟨mkSl 102 [(1, T.one (V.arr 1 (List.map c_I counts))), (2, T.one (V.ptr 2 1 0 0)), (4, T.one (V.ptr 4 1 0 0)), (5, T.one (V.bool false)), (6, T.one (V.ptr 6 1 0 0)), (7, T.one (V.int .i64 i))], [(2, Ob.mk 1 (some (Con.mk 31 2 false [[V.arr 1 (List.map c_LI s_.1), V.arr 1 (List.map c_I s_.2)]]))), (4, Ob.mk 1 (some (Con.mk 28 2 false [[V.nil, V.int .i64 0]]))), (6, Ob.mk 1 (some (Con.mk 28 2 false [[V.ref 32 1, V.int .i64 out1]]))), (32, Ob.mk 1 (some (Con.mk 3 1 true (List.map c_I o322))))]⟩
def spec_PlaneOfCounts_l1_G (s_ : ((List (List Int)) × (List Int))) (counts : (List Int)) (out1 : Int) (i : Int) : ((List Int) × Int) ⊕ (List Int) → AExit × St
  | .inl s => (.normal, spec_PlaneOfCounts_l1_S s_ counts out1 i s.1 s.2)
  | .inr d => ((.exit 2), spec_PlaneOfCounts_l1_X0 s_ counts out1 i d)
noncomputable def spec_PlaneOfCounts_l1 (s_ : ((List (List Int)) × (List Int))) (counts : (List Int)) (out1 : Int) (i : Int) (o322 : (List Int)) (k : Int) : Sc Try.prog (((List Int) × Int) ⊕ (List Int)) :=
  .go <|
  .brc (decide ((k : Int) < (ln c_I o322)))
  (idx c_I o322 k <|
  ld 7 c_I o322 (Int.toNat k) fun x5 =>
  get 10 c_I counts i fun x6 =>
  get 15 c_I s_.2 i fun x7 =>
  get 21 c_LI s_.1 i fun x8 =>
  get 24 c_I x8 k fun x9 =>
  idx c_I o322 k <|
  upd 29 c_I o322 (Int.toNat k) (fun _ => (w64 (x5 + (w64 ((w64 (x6 * x7)) * x9))))) fun x10 =>
  .go <|
  .go <|
  .ret [1, 2, 4, 5, 6, 7, 8] [2, 4, 6, 32] (.inl ((List.set o322 (Int.toNat k) (w64 (x5 + (w64 ((w64 (x6 * x7)) * x9))))), (w64 (k + 1)))))
  (.ret [1, 2, 4, 5, 6, 7] [2, 4, 6, 32] (.inr o322))
noncomputable def m_spec_PlaneOfCounts_l1 (s_ : ((List (List Int)) × (List Int))) (counts : (List Int)) (out1 : Int) (i : Int) (s : ((List Int) × Int)) : Option (List Int) := lrun (fun s => den (spec_PlaneOfCounts_l1 s_ counts out1 i s.1 s.2)) s
theorem ok_spec_PlaneOfCounts_l1 (s_ : ((List (List Int)) × (List Int))) (counts : (List Int)) (out1 : Int) (i : Int) (s : ((List Int) × Int)) (d : (List Int)) (h : m_spec_PlaneOfCounts_l1 s_ counts out1 i s = some d) : ExecOK Try.prog (.loop (bodyOf Try.prog n_spec_PlaneOfCounts 1)) (spec_PlaneOfCounts_l1_S s_ counts out1 i s.1 s.2) (spec_PlaneOfCounts_l1_G s_ counts out1 i (.inr d)).1 (spec_PlaneOfCounts_l1_G s_ counts out1 i (.inr d)).2 :=
  loopOK mixed (G := spec_PlaneOfCounts_l1_G s_ counts out1 i) (sc := fun s => spec_PlaneOfCounts_l1 s_ counts out1 i s.1 s.2) (fun s => by kernel_rfl) (fun _ => rfl) (fun d => rfl) s d h
def spec_PlaneOfCounts_l0_S (s_ : ((List (List Int)) × (List Int))) (counts : (List Int)) (out1 : Int) (o32 : (List Int)) (i : Int) : St := ⟨mkSl 102 [(1, T.one (V.arr 1 (List.map c_I counts))), (2, T.one (V.ptr 2 1 0 0)), (4, T.one (V.ptr 4 1 0 0)), (5, T.one (V.bool false)), (6, T.one (V.ptr 6 1 0 0)), (7, T.one (V.int .i64 i))], [(2, Ob.mk 1 (some (Con.mk 31 2 false [[V.arr 1 (List.map c_LI s_.1), V.arr 1 (List.map c_I s_.2)]]))), (4, Ob.mk 1 (some (Con.mk 28 2 false [[V.nil, V.int .i64 0]]))), (6, Ob.mk 1 (some (Con.mk 28 2 false [[V.ref 32 1, V.int .i64 out1]]))), (32, Ob.mk 1 (some (Con.mk 3 1 true (List.map c_I o32))))]⟩
def spec_PlaneOfCounts_l0_X0 (s_ : ((List (List Int)) × (List Int))) (counts : (List Int)) : St := ⟨mkSl 102 [(4, T.one (V.ptr 4 1 0 0)), (5, T.one (V.bool false))], [(4, Ob.mk 1 (some (Con.mk 28 2 false [[V.arr 1 (List.map c_I []), V.int .i64 0]])))]⟩
def spec_PlaneOfCounts_l0_X1 (s_ : ((List (List Int)) × (List Int))) (counts : (List Int)) (out1 : Int) (o32 : (List Int)) : St := ⟨mkSl 102 [(4, T.one (V.ptr 4 1 0 0)), (5, T.one (V.bool false)), (6, T.one (V.ptr 6 1 0 0))], [(4, Ob.mk 1 (some (Con.mk 28 2 false [[V.nil, V.int .i64 0]]))), (6, Ob.mk 1 (some (Con.mk 28 2 false [[V.ref 32 1, V.int .i64 out1]]))), (32, Ob.mk 1 (some (Con.mk 3 1 true (List.map c_I o32))))]⟩
def spec_PlaneOfCounts_l0_G (s_ : ((List (List Int)) × (List Int))) (counts : (List Int)) : (Int × (List Int) × Int) ⊕ (Unit ⊕ (Int × (List Int))) → AExit × St
  | .inl s => (.normal, spec_PlaneOfCounts_l0_S s_ counts s.1 s.2.1 s.2.2)
  | .inr (.inl d) => (.ret, spec_PlaneOfCounts_l0_X0 s_ counts)
  | .inr (.inr d) => ((.exit 0), spec_PlaneOfCounts_l0_X1 s_ counts d.1 d.2)
noncomputable def spec_PlaneOfCounts_l0 (s_ : ((List (List Int)) × (List Int))) (counts : (List Int)) (out1 : Int) (o32 : (List Int)) (i : Int) : Sc Try.prog ((Int × (List Int) × Int) ⊕ (Unit ⊕ (Int × (List Int)))) :=
  .go <|
  .brc (decide ((i : Int) < (ln c_I counts)))
  (get 2 c_I counts i fun x3 =>
  call 4 (ok_spec_l1In x3 0 999) [] [] [] [] fun x4 =>
  .go <|
  .brc (!x4)
  (chs 0 (.wk (T.agg [V.arr 1 [], V.nil])) <|
  .go <|
  .ret [4, 5] [4] (.inr (.inl ())))
  (.go <|
  lp (ok_spec_PlaneOfCounts_l1 s_ counts out1 i (o32, 0)) [1, 2, 4, 5, 6, 7, 8] [2, 4, 6, 32] fun x11 =>
  get 4 c_I counts i fun x12 =>
  get 9 c_I s_.2 i fun x13 =>
  .go <|
  .go <|
  .ret [1, 2, 4, 5, 6, 7] [2, 4, 6, 32] (.inl ((w64 (out1 - (w64 (x12 * x13)))), x11, (w64 (i + 1))))))
  (.ret [4, 5, 6] [4, 6, 32] (.inr (.inr (out1, o32))))
noncomputable def m_spec_PlaneOfCounts_l0 (s_ : ((List (List Int)) × (List Int))) (counts : (List Int)) (s : (Int × (List Int) × Int)) : Option (Unit ⊕ (Int × (List Int))) := lrun (fun s => den (spec_PlaneOfCounts_l0 s_ counts s.1 s.2.1 s.2.2)) s
theorem ok_spec_PlaneOfCounts_l0 (s_ : ((List (List Int)) × (List Int))) (counts : (List Int)) (s : (Int × (List Int) × Int)) (d : (Unit ⊕ (Int × (List Int)))) (h : m_spec_PlaneOfCounts_l0 s_ counts s = some d) : ExecOK Try.prog (.loop (bodyOf Try.prog n_spec_PlaneOfCounts 0)) (spec_PlaneOfCounts_l0_S s_ counts s.1 s.2.1 s.2.2) (spec_PlaneOfCounts_l0_G s_ counts (.inr d)).1 (spec_PlaneOfCounts_l0_G s_ counts (.inr d)).2 :=
  loopOK mixed (G := spec_PlaneOfCounts_l0_G s_ counts) (sc := fun s => spec_PlaneOfCounts_l0 s_ counts s.1 s.2.1 s.2.2) (fun s => by kernel_rfl) (fun _ => rfl) (fun d => by rcases d with d | d <;> rfl) s d h
noncomputable def s_spec_PlaneOfCounts (s_ : ((List (List Int)) × (List Int))) (counts : (List Int)) : Sc Try.prog (((List Int) × Int) × Bool) :=
  .go <|
  call 1 (ok_spec_l2Sample s_) [] [] [] [] fun x1 =>
  .br 3 (!x1)
  (.go <|
  .brk true <|
  chs 0 (.wk (T.agg [V.arr 1 [], V.nil])) <|
  .go <|
  .ret [] [] (([], 0), false))
  (.br 9 (((ln c_LI s_.1) : Int) == 0)
  (.go <|
  .brk true <|
  chs 0 (.wk (T.agg [V.arr 1 [], V.nil])) <|
  .go <|
  .ret [] [] (([], 0), false))
  (.go <|
  .brc (((ln c_I counts) : Int) != (ln c_LI s_.1))
  (chs 0 (.wk (T.agg [V.arr 1 [], V.nil])) <|
  .go <|
  .ret [] [] (([], 0), false))
  (get 2 c_LI s_.1 0 fun x2 =>
  mk 5 c_I 8 (ln c_I x2) 0 <|
  .go <|
  .go <|
  lp2 (ok_spec_PlaneOfCounts_l0 s_ counts (0, (List.replicate (Int.toNat (ln c_I x2)) 0), 0)) [1, 2, 4, 5, 6, 7] [2, 4, 6, 32]
  (fun x14 =>
  .ret [] [] (([], 0), false))
  (fun x15 =>
  call 1 (ok_spec_l2Plane (x15.2, x15.1)) [] [32] [] [] fun x16 =>
  .go <|
  .brc (!x16)
  (chs 0 (.wk (T.agg [V.arr 1 [], V.nil])) <|
  .go <|
  .ret [] [] (([], 0), false))
  (.go <|
  .ret [32] [] ((x15.2, x15.1), true))))))
noncomputable def m_spec_PlaneOfCounts (s_ : ((List (List Int)) × (List Int))) (counts : (List Int)) : Option (((List Int) × Int) × Bool) := den (s_spec_PlaneOfCounts s_ counts)
theorem ok_spec_PlaneOfCounts (s_ : ((List (List Int)) × (List Int))) (counts : (List Int)) : ∀ r, m_spec_PlaneOfCounts s_ counts = some r → CallOK Try.prog n_spec_PlaneOfCounts [T.agg (c_P2_LLI_LI s_), T.one (V.arr 1 (List.map c_I counts))] [] (T.tup [T.agg (c_P2_LI_I r.1), T.one (V.bool r.2)]) [] :=
  fun r h => fnOK mixed (G := fun r => (T.tup [T.agg (c_P2_LI_I r.1), T.one (V.bool r.2)], [])) (by kernel_rfl) r h

def laws_vInts_l0_S (a : (List Int)) (b : (List Int)) (i : Int) : St := ⟨mkSl 26 [(0, T.one (V.arr 1 (List.map c_I a))), (1, T.one (V.arr 1 (List.map c_I b))), (4, T.one (V.bool false)), (5, T.one (V.int .i64 i))], []⟩
def laws_vInts_l0_X0 (a : (List Int)) (b : (List Int)) : St := ⟨mkSl 26 [(4, T.one (V.bool false))], []⟩
def laws_vInts_l0_X1 (a : (List Int)) (b : (List Int)) : St := ⟨mkSl 26 [(4, T.one (V.bool false))], []⟩
def laws_vInts_l0_G (a : (List Int)) (b : (List Int)) : Int ⊕ (Unit ⊕ Unit) → AExit × St
  | .inl s => (.normal, laws_vInts_l0_S a b s)
  | .inr (.inl d) => (.ret, laws_vInts_l0_X0 a b)
  | .inr (.inr d) => ((.exit 0), laws_vInts_l0_X1 a b)
noncomputable def laws_vInts_l0 (a : (List Int)) (b : (List Int)) (i : Int) : Sc Try.prog (Int ⊕ (Unit ⊕ Unit)) :=
  .go <|
  .brc (decide ((i : Int) < (ln c_I a)))
  (get 2 c_I a i fun x1 =>
  get 6 c_I b i fun x2 =>
  .go <|
  .brc ((x1 : Int) != x2)
  (.go <|
  .ret [4] [] (.inr (.inl ())))
  (.go <|
  .ret [0, 1, 4, 5] [] (.inl (w64 (i + 1)))))
  (.ret [4] [] (.inr (.inr ())))
noncomputable def m_laws_vInts_l0 (a : (List Int)) (b : (List Int)) (s : Int) : Option (Unit ⊕ Unit) := lrun (fun s => den (laws_vInts_l0 a b s)) s
theorem ok_laws_vInts_l0 (a : (List Int)) (b : (List Int)) (s : Int) (d : (Unit ⊕ Unit)) (h : m_laws_vInts_l0 a b s = some d) : ExecOK Try.prog (.loop (bodyOf Try.prog n_laws_vInts 0)) (laws_vInts_l0_S a b s) (laws_vInts_l0_G a b (.inr d)).1 (laws_vInts_l0_G a b (.inr d)).2 :=
  loopOK mixed (G := laws_vInts_l0_G a b) (sc := fun s => laws_vInts_l0 a b s) (fun s => by kernel_rfl) (fun _ => rfl) (fun d => by rcases d with d | d <;> rfl) s d h
noncomputable def s_laws_vInts (a : (List Int)) (b : (List Int)) : Sc Try.prog (Bool) :=
  .go <|
  .go <|
  .brc (((ln c_I a) : Int) != (ln c_I b))
  (.go <|
  .ret [] [] false)
  (.go <|
  lp2 (ok_laws_vInts_l0 a b 0) [0, 1, 4, 5] []
  (fun x3 =>
  .ret [] [] false)
  (fun x4 =>
  .go <|
  .ret [] [] true))
noncomputable def m_laws_vInts (a : (List Int)) (b : (List Int)) : Option (Bool) := den (s_laws_vInts a b)
theorem ok_laws_vInts (a : (List Int)) (b : (List Int)) : ∀ r, m_laws_vInts a b = some r → CallOK Try.prog n_laws_vInts [T.one (V.arr 1 (List.map c_I a)), T.one (V.arr 1 (List.map c_I b))] [] (T.one (V.bool r)) [] :=
  fun r h => fnOK mixed (G := fun r => (T.one (V.bool r), [])) (by kernel_rfl) r h

noncomputable def s_laws_vPlane (a : ((List Int) × Int)) (b : ((List Int) × Int)) : Sc Try.prog (Bool) :=
  .go <|
  call 4 (ok_laws_vInts a.1 b.1) [] [] [] [] fun x1 =>
  .br 5 x1
  (.go <|
  .ret [] [] ((a.2 : Int) == b.2))
  (.go <|
  .ret [] [] false)
noncomputable def m_laws_vPlane (a : ((List Int) × Int)) (b : ((List Int) × Int)) : Option (Bool) := den (s_laws_vPlane a b)
theorem ok_laws_vPlane (a : ((List Int) × Int)) (b : ((List Int) × Int)) : ∀ r, m_laws_vPlane a b = some r → CallOK Try.prog n_laws_vPlane [T.agg (c_P2_LI_I a), T.agg (c_P2_LI_I b)] [] (T.one (V.bool r)) [] :=
  fun r h => fnOK mixed (G := fun r => (T.one (V.bool r), [])) (by kernel_rfl) r h

def laws_vAdd_l0_S (list : (List Int)) (n : Int) (i : Int) : St := ⟨mkSl 18 [(0, T.one (V.arr 1 (List.map c_I list))), (2, T.one (V.int .i64 0)), (3, T.one (V.int .i64 n)), (4, T.one (V.int .i64 i))], []⟩
def laws_vAdd_l0_X0 (list : (List Int)) (n : Int) : St := ⟨mkSl 18 [(2, T.one (V.int .i64 0)), (3, T.one (V.int .i64 n))], []⟩
def laws_vAdd_l0_G (list : (List Int)) : (Int × Int) ⊕ Int → AExit × St
  | .inl s => (.normal, laws_vAdd_l0_S list s.1 s.2)
  | .inr d => ((.exit 0), laws_vAdd_l0_X0 list d)
noncomputable def laws_vAdd_l0 (list : (List Int)) (n : Int) (i : Int) : Sc Try.prog ((Int × Int) ⊕ Int) :=
  .go <|
  .brc (decide ((i : Int) < (ln c_I list)))
  (get 3 c_I list i fun x1 =>
  .go <|
  .go <|
  .ret [0, 2, 3, 4] [] (.inl ((w64 (n + x1)), (w64 (i + 1)))))
  (.ret [2, 3] [] (.inr n))
noncomputable def m_laws_vAdd_l0 (list : (List Int)) (s : (Int × Int)) : Option Int := lrun (fun s => den (laws_vAdd_l0 list s.1 s.2)) s
theorem ok_laws_vAdd_l0 (list : (List Int)) (s : (Int × Int)) (d : Int) (h : m_laws_vAdd_l0 list s = some d) : ExecOK Try.prog (.loop (bodyOf Try.prog n_laws_vAdd 0)) (laws_vAdd_l0_S list s.1 s.2) (laws_vAdd_l0_G list (.inr d)).1 (laws_vAdd_l0_G list (.inr d)).2 :=
  loopOK mixed (G := laws_vAdd_l0_G list) (sc := fun s => laws_vAdd_l0 list s.1 s.2) (fun s => by kernel_rfl) (fun _ => rfl) (fun d => rfl) s d h
noncomputable def s_laws_vAdd (list : (List Int)) : Sc Try.prog (Int) :=
  .go <|
  .go <|
  .go <|
  lp (ok_laws_vAdd_l0 list (0, 0)) [0, 2, 3, 4] [] fun x2 =>
  .go <|
  .ret [] [] x2
noncomputable def m_laws_vAdd (list : (List Int)) : Option (Int) := den (s_laws_vAdd list)
theorem ok_laws_vAdd (list : (List Int)) : ∀ r, m_laws_vAdd list = some r → CallOK Try.prog n_laws_vAdd [T.one (V.arr 1 (List.map c_I list))] [] (T.one (V.int .i64 r)) [] :=
  fun r h => fnOK mixed (G := fun r => (T.one (V.int .i64 r), [])) (by kernel_rfl) r h

noncomputable def s_impl_suits (s_ : ((List (List Int)) × (List Int))) (p : ((List Int) × Int)) : Sc Try.prog (Bool) :=
  .go <|
  call 1 (ok_impl_IsSample s_) [] [] [] [] fun x1 =>
  .br 2 x1
  (call 4 (ok_impl_IsPlane p) [] [] [] [] fun x2 =>
  .br 6 x2
  (.br 11 (((ln c_LI s_.1) : Int) == 0)
  (.go <|
  .ret [] [] true)
  (get 14 c_LI s_.1 0 fun x3 =>
  .go <|
  .ret [] [] (((ln c_I x3) : Int) == (ln c_I p.1))))
  (.go <|
  .ret [] [] false))
  (.go <|
  .ret [] [] false)
noncomputable def m_impl_suits (s_ : ((List (List Int)) × (List Int))) (p : ((List Int) × Int)) : Option (Bool) := den (s_impl_suits s_ p)
theorem ok_impl_suits (s_ : ((List (List Int)) × (List Int))) (p : ((List Int) × Int)) : ∀ r, m_impl_suits s_ p = some r → CallOK Try.prog n_impl_suits [T.agg (c_P2_LLI_LI s_), T.agg (c_P2_LI_I p)] [] (T.one (V.bool r)) [] :=
  fun r h => fnOK mixed (G := fun r => (T.one (V.bool r), [])) (by kernel_rfl) r h

noncomputable def s_impl_MistakesOf (s_ : ((List (List Int)) × (List Int))) (p : ((List Int) × Int)) : Sc Try.prog ((List Int) × Bool) :=
  chs 2 (.wk (T.one (V.arr 1 []))) <|
  .go <|
  call 2 (ok_impl_suits s_ p) [] [] [] [] fun x1 =>
  .go <|
  .brc (!x1)
  (chs 0 (.wk (T.one (V.arr 1 []))) <|
  .go <|
  .ret [] [] ([], false))
  (call 2 (ok_impl_Plane_mistakes p s_) [] [] [] [] fun x2 =>
  .go <|
  .ret [] [] (x2, true))
noncomputable def m_impl_MistakesOf (s_ : ((List (List Int)) × (List Int))) (p : ((List Int) × Int)) : Option ((List Int) × Bool) := den (s_impl_MistakesOf s_ p)
theorem ok_impl_MistakesOf (s_ : ((List (List Int)) × (List Int))) (p : ((List Int) × Int)) : ∀ r, m_impl_MistakesOf s_ p = some r → CallOK Try.prog n_impl_MistakesOf [T.agg (c_P2_LLI_LI s_), T.agg (c_P2_LI_I p)] [] (T.tup [T.one (V.arr 1 (List.map c_I r.1)), T.one (V.bool r.2)]) [] :=
  fun r h => fnOK mixed (G := fun r => (T.tup [T.one (V.arr 1 (List.map c_I r.1)), T.one (V.bool r.2)], [])) (by kernel_rfl) r h

noncomputable def s_impl_FitsSample (s_ : ((List (List Int)) × (List Int))) (p : ((List Int) × Int)) : Sc Try.prog (Bool × Bool) :=
  .go <|
  call 2 (ok_impl_suits s_ p) [] [] [] [] fun x1 =>
  .go <|
  .brc (!x1)
  (.go <|
  .ret [] [] (false, false))
  (call 2 (ok_impl_Plane_mistakes p s_) [] [] [] [] fun x2 =>
  .go <|
  .ret [] [] ((((ln c_I x2) : Int) == 0), true))
noncomputable def m_impl_FitsSample (s_ : ((List (List Int)) × (List Int))) (p : ((List Int) × Int)) : Option (Bool × Bool) := den (s_impl_FitsSample s_ p)
theorem ok_impl_FitsSample (s_ : ((List (List Int)) × (List Int))) (p : ((List Int) × Int)) : ∀ r, m_impl_FitsSample s_ p = some r → CallOK Try.prog n_impl_FitsSample [T.agg (c_P2_LLI_LI s_), T.agg (c_P2_LI_I p)] [] (T.tup [T.one (V.bool r.1), T.one (V.bool r.2)]) [] :=
  fun r h => fnOK mixed (G := fun r => (T.tup [T.one (V.bool r.1), T.one (V.bool r.2)], [])) (by kernel_rfl) r h

noncomputable def s_impl_meets (p : ((List Int) × Int)) (x_ : (List Int)) : Sc Try.prog (Bool) :=
  .go <|
  call 1 (ok_impl_IsPlane p) [] [] [] [] fun x1 =>
  .br 2 x1
  (call 4 (ok_impl_IsPoint x_) [] [] [] [] fun x2 =>
  .br 6 x2
  (.go <|
  .ret [] [] (((ln c_I x_) : Int) == (ln c_I p.1)))
  (.go <|
  .ret [] [] false))
  (.go <|
  .ret [] [] false)
noncomputable def m_impl_meets (p : ((List Int) × Int)) (x_ : (List Int)) : Option (Bool) := den (s_impl_meets p x_)
theorem ok_impl_meets (p : ((List Int) × Int)) (x_ : (List Int)) : ∀ r, m_impl_meets p x_ = some r → CallOK Try.prog n_impl_meets [T.agg (c_P2_LI_I p), T.one (V.arr 1 (List.map c_I x_))] [] (T.one (V.bool r)) [] :=
  fun r h => fnOK mixed (G := fun r => (T.one (V.bool r), [])) (by kernel_rfl) r h

noncomputable def s_impl_StepPerceptron (p : ((List Int) × Int)) (x_ : (List Int)) (label : Int) : Sc Try.prog (((List Int) × Int) × Bool × Bool) :=
  .go <|
  call 2 (ok_impl_meets p x_) [] [] [] [] fun x1 =>
  .br 4 (!x1)
  (.go <|
  .brk true <|
  chs 0 (.wk (T.agg [V.arr 1 [], V.nil])) <|
  .go <|
  .ret [] [] (([], 0), false, false))
  (call 6 (ok_impl_isLabel label) [] [] [] [] fun x2 =>
  .go <|
  .brc (!x2)
  (chs 0 (.wk (T.agg [V.arr 1 [], V.nil])) <|
  .go <|
  .ret [] [] (([], 0), false, false))
  (call 3 (ok_impl_Plane_step p x_ label) [] [] [] [] fun x3 =>
  .go <|
  call 1 (ok_impl_IsPlane x3.1) [] [] [] [] fun x4 =>
  .go <|
  .brc (!x4)
  (chs 0 (.wk (T.agg [V.arr 1 [], V.nil])) <|
  .go <|
  .ret [] [] (([], 0), false, false))
  (call 2 (ok_impl_copied x3.1.1) [] [] [] [] fun x5 =>
  .go <|
  .ret [] [] ((x5, x3.1.2), x3.2, true))))
noncomputable def m_impl_StepPerceptron (p : ((List Int) × Int)) (x_ : (List Int)) (label : Int) : Option (((List Int) × Int) × Bool × Bool) := den (s_impl_StepPerceptron p x_ label)
theorem ok_impl_StepPerceptron (p : ((List Int) × Int)) (x_ : (List Int)) (label : Int) : ∀ r, m_impl_StepPerceptron p x_ label = some r → CallOK Try.prog n_impl_StepPerceptron [T.agg (c_P2_LI_I p), T.one (V.arr 1 (List.map c_I x_)), T.one (V.int .i64 label)] [] (T.tup [T.agg (c_P2_LI_I r.1), T.one (V.bool r.2.1), T.one (V.bool r.2.2)]) [] :=
  fun r h => fnOK mixed (G := fun r => (T.tup [T.agg (c_P2_LI_I r.1), T.one (V.bool r.2.1), T.one (V.bool r.2.2)], [])) (by kernel_rfl) r h

end Go.Abs
