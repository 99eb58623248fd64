import Derived.Test.YtkjlebnmeimfnaaGxN
import Derived.Test.YtkjlebnmeimfnaaGx1
import Derived.Test.YtkjlebnmeimfnaaGx2
import Derived.Test.YtkjlebnmeimfnaaGx3
import Derived.Test.YtkjlebnmeimfnaaGx4
namespace Go.Abs
open Go.Proofs

def impl_Plane_mistakes_l0_S (p : ((List Int) × Int)) (s_ : ((List (List Int)) × (List Int))) (o8 : (List Int)) (t12 : Int) : St := ⟨mkSl 32 [(2, T.one (V.ptr 2 1 0 0)), (3, T.one (V.ptr 3 1 0 0)), (4, T.one (V.ref 900 1)), (5, T.one (V.ref 8 1)), (10, T.one (V.arr 1 (List.map c_LI s_.1))), (11, T.one (V.int .i64 (ln c_LI s_.1))), (12, T.one (V.int .i64 t12))], [(2, Ob.mk 1 (some (Con.mk 28 2 false [[V.arr 1 (List.map c_I p.1), V.int .i64 p.2]]))), (3, Ob.mk 1 (some (Con.mk 31 2 false [[V.arr 1 (List.map c_LI s_.1), V.arr 1 (List.map c_I s_.2)]]))), (900, Ob.mk 1 (some (Con.mk 3 1 true (List.map c_I [])))), (8, Ob.mk 1 (some (Con.mk 3 1 true (List.map c_I o8))))]⟩
def impl_Plane_mistakes_l0_X0 (p : ((List Int) × Int)) (s_ : ((List (List Int)) × (List Int))) (o8 : (List Int)) : St := ⟨mkSl 32 [(4, T.one (V.ref 900 1)), (5, T.one (V.ref 8 1))], [(900, Ob.mk 1 (some (Con.mk 3 1 true (List.map c_I [])))), (8, Ob.mk 1 (some (Con.mk 3 1 true (List.map c_I o8))))]⟩
def impl_Plane_mistakes_l0_G (p : ((List Int) × Int)) (s_ : ((List (List Int)) × (List Int))) : ((List Int) × Int) ⊕ (List Int) → AExit × St
  | .inl s => (.normal, impl_Plane_mistakes_l0_S p s_ s.1 s.2)
  | .inr d => ((.exit 0), impl_Plane_mistakes_l0_X0 p s_ d)
noncomputable def impl_Plane_mistakes_l0 (p : ((List Int) × Int)) (s_ : ((List (List Int)) × (List Int))) (o8 : (List Int)) (t12 : Int) : Sc Try.prog (((List Int) × Int) ⊕ (List Int)) :=
  .go <|
  .brc (decide ((t12 : Int) < (ln c_LI s_.1)))
  (get 1 c_LI s_.1 t12 fun x1 =>
  .go <|
  call 2 (ok_impl_Plane_side p x1) [] [] [] [] fun x2 =>
  get 6 c_I s_.2 t12 fun x3 =>
  .go <|
  .brc ((x2 : Int) != x3)
  (chs 2 .tree <|
  app 3 c_I 8 o8 ([t12] : List Int) <|
  .go <|
  .go <|
  .ret [2, 3, 4, 5, 10, 11, 12] [2, 3, 900, 8] (.inl ((o8 ++ ([t12] : List Int)), (w64 (t12 + 1)))))
  (.go <|
  .ret [2, 3, 4, 5, 10, 11, 12] [2, 3, 900, 8] (.inl (o8, (w64 (t12 + 1))))))
  (.ret [4, 5] [900, 8] (.inr o8))
noncomputable def m_impl_Plane_mistakes_l0 (p : ((List Int) × Int)) (s_ : ((List (List Int)) × (List Int))) (s : ((List Int) × Int)) : Option (List Int) := lrun (fun s => den (impl_Plane_mistakes_l0 p s_ s.1 s.2)) s
theorem ok_impl_Plane_mistakes_l0 (p : ((List Int) × Int)) (s_ : ((List (List Int)) × (List Int))) (s : ((List Int) × Int)) (d : (List Int)) (h : m_impl_Plane_mistakes_l0 p s_ s = some d) : ExecOK Try.prog (.loop (bodyOf Try.prog n_impl_Plane_mistakes 0)) (impl_Plane_mistakes_l0_S p s_ s.1 s.2) (impl_Plane_mistakes_l0_G p s_ (.inr d)).1 (impl_Plane_mistakes_l0_G p s_ (.inr d)).2 :=
  loopOK mixed (G := impl_Plane_mistakes_l0_G p s_) (sc := fun s => impl_Plane_mistakes_l0 p s_ s.1 s.2) (fun s => by kernel_rfl) (fun _ => rfl) (fun d => rfl) s d h
noncomputable def s_impl_Plane_mistakes (p : ((List Int) × Int)) (s_ : ((List (List Int)) × (List Int))) : Sc Try.prog ((List Int)) :=
  chs 2 (.own [(0, 900, 3, 1)]) <|
  .go <|
  .go <|
  .go <|
  lp (ok_impl_Plane_mistakes_l0 p s_ ([], 0)) [2, 3, 4, 5, 10, 11, 12] [2, 3, 900, 8] fun x4 =>
  .go <|
  .ret [8] [] x4
noncomputable def m_impl_Plane_mistakes (p : ((List Int) × Int)) (s_ : ((List (List Int)) × (List Int))) : Option ((List Int)) := den (s_impl_Plane_mistakes p s_)
theorem ok_impl_Plane_mistakes (p : ((List Int) × Int)) (s_ : ((List (List Int)) × (List Int))) : ∀ r, m_impl_Plane_mistakes p s_ = some r → CallOK Try.prog n_impl_Plane_mistakes [T.agg (c_P2_LI_I p), T.agg (c_P2_LLI_LI s_)] [] (T.one (V.arr 1 (List.map c_I r))) [] :=
  fun r h => fnOK mixed (G := fun r => (T.one (V.arr 1 (List.map c_I r)), [])) (by kernel_rfl) r h

def impl_PocketPlane_l0_S (s_ : ((List (List Int)) × (List Int))) (x1 : ((List ((List Int) × Int)) × (List Int) × (List Int)) × Bool) (best : (List Int)) (best1 : Int) (t27 : Int) : St := ⟨mkSl 43 [(2, T.one (V.ptr 2 1 0 0)), (4, T.one (V.ptr 4 1 0 0)), (5, T.one (V.bool false)), (8, T.one (V.ptr 8 1 0 0)), (25, T.one (V.arr 2 (List.map c_P2_LI_I x1.1.1))), (26, T.one (V.int .i64 (ln c_P2_LI_I x1.1.1))), (27, T.one (V.int .i64 t27))], [(2, Ob.mk 1 (some (Con.mk 31 2 false [[V.arr 1 (List.map c_LI s_.1), V.arr 1 (List.map c_I s_.2)]]))), (4, Ob.mk 1 (some (Con.mk 28 2 false [[V.nil, V.int .i64 0]]))), (8, Ob.mk 1 (some (Con.mk 28 2 false [[V.arr 1 (List.map c_I best), V.int .i64 best1]])))]⟩
def impl_PocketPlane_l0_X0 (s_ : ((List (List Int)) × (List Int))) (x1 : ((List ((List Int) × Int)) × (List Int) × (List Int)) × Bool) (best : (List Int)) (best1 : Int) : St := ⟨mkSl 43 [(4, T.one (V.ptr 4 1 0 0)), (5, T.one (V.bool false)), (8, T.one (V.ptr 8 1 0 0))], [(4, Ob.mk 1 (some (Con.mk 28 2 false [[V.nil, V.int .i64 0]]))), (8, Ob.mk 1 (some (Con.mk 28 2 false [[V.arr 1 (List.map c_I best), V.int .i64 best1]])))]⟩
def impl_PocketPlane_l0_G (s_ : ((List (List Int)) × (List Int))) (x1 : ((List ((List Int) × Int)) × (List Int) × (List Int)) × Bool) : ((List Int) × Int × Int) ⊕ ((List Int) × Int) → AExit × St
  | .inl s => (.normal, impl_PocketPlane_l0_S s_ x1 s.1 s.2.1 s.2.2)
  | .inr d => ((.exit 0), impl_PocketPlane_l0_X0 s_ x1 d.1 d.2)
noncomputable def impl_PocketPlane_l0 (s_ : ((List (List Int)) × (List Int))) (x1 : ((List ((List Int) × Int)) × (List Int) × (List Int)) × Bool) (best : (List Int)) (best1 : Int) (t27 : Int) : Sc Try.prog (((List Int) × Int × Int) ⊕ ((List Int) × Int)) :=
  .go <|
  .brc (decide ((t27 : Int) < (ln c_P2_LI_I x1.1.1)))
  (get 0 c_P2_LI_I x1.1.1 t27 fun x3 =>
  .go <|
  call 2 (ok_impl_Plane_mistakes x3 s_) [] [] [] [] fun x4 =>
  call 6 (ok_impl_Plane_mistakes (best, best1) s_) [] [] [] [] fun x5 =>
  .go <|
  .brc (decide (((ln c_I x4) : Int) < (ln c_I x5)))
  (.go <|
  .go <|
  .ret [2, 4, 5, 8, 25, 26, 27] [2, 4, 8] (.inl (x3.1, x3.2, (w64 (t27 + 1)))))
  (.go <|
  .ret [2, 4, 5, 8, 25, 26, 27] [2, 4, 8] (.inl (best, best1, (w64 (t27 + 1))))))
  (.ret [4, 5, 8] [4, 8] (.inr (best, best1)))
noncomputable def m_impl_PocketPlane_l0 (s_ : ((List (List Int)) × (List Int))) (x1 : ((List ((List Int) × Int)) × (List Int) × (List Int)) × Bool) (s : ((List Int) × Int × Int)) : Option ((List Int) × Int) := lrun (fun s => den (impl_PocketPlane_l0 s_ x1 s.1 s.2.1 s.2.2)) s
theorem ok_impl_PocketPlane_l0 (s_ : ((List (List Int)) × (List Int))) (x1 : ((List ((List Int) × Int)) × (List Int) × (List Int)) × Bool) (s : ((List Int) × Int × Int)) (d : ((List Int) × Int)) (h : m_impl_PocketPlane_l0 s_ x1 s = some d) : ExecOK Try.prog (.loop (bodyOf Try.prog n_impl_PocketPlane 0)) (impl_PocketPlane_l0_S s_ x1 s.1 s.2.1 s.2.2) (impl_PocketPlane_l0_G s_ x1 (.inr d)).1 (impl_PocketPlane_l0_G s_ x1 (.inr d)).2 :=
  loopOK mixed (G := impl_PocketPlane_l0_G s_ x1) (sc := fun s => impl_PocketPlane_l0 s_ x1 s.1 s.2.1 s.2.2) (fun s => by kernel_rfl) (fun _ => rfl) (fun d => rfl) s d h
noncomputable def s_impl_PocketPlane (s_ : ((List (List Int)) × (List Int))) (rounds : Int) : Sc Try.prog (((List Int) × Int) × Bool) :=
  .go <|
  call 2 (ok_impl_runOf s_ rounds) [] [] [] [] fun x1 =>
  .go <|
  .go <|
  .brc (!x1.2)
  (chs 0 (.wk (T.agg [V.arr 1 [], V.nil])) <|
  .go <|
  .ret [] [] (([], 0), false))
  (get 2 c_P2_LI_I x1.1.1 0 fun x2 =>
  .go <|
  .go <|
  lp (ok_impl_PocketPlane_l0 s_ x1 (x2.1, x2.2, 0)) [2, 4, 5, 8, 25, 26, 27] [2, 4, 8] fun x6 =>
  .go <|
  .ret [] [] (x6, true))
noncomputable def m_impl_PocketPlane (s_ : ((List (List Int)) × (List Int))) (rounds : Int) : Option (((List Int) × Int) × Bool) := den (s_impl_PocketPlane s_ rounds)
theorem ok_impl_PocketPlane (s_ : ((List (List Int)) × (List Int))) (rounds : Int) : ∀ r, m_impl_PocketPlane s_ rounds = some r → CallOK Try.prog n_impl_PocketPlane [T.agg (c_P2_LLI_LI s_), T.one (V.int .i64 rounds)] [] (T.tup [T.agg (c_P2_LI_I r.1), T.one (V.bool r.2)]) [] :=
  fun r h => fnOK mixed (G := fun r => (T.tup [T.agg (c_P2_LI_I r.1), T.one (V.bool r.2)], [])) (by kernel_rfl) r h

def spec_l2Mistakes_l0_S (s_ : ((List (List Int)) × (List Int))) (p : ((List Int) × Int)) (o7 : (List Int)) (i : Int) : St := ⟨mkSl 33 [(2, T.one (V.ptr 2 1 0 0)), (3, T.one (V.ptr 3 1 0 0)), (4, T.one (V.ref 900 1)), (5, T.one (V.ref 7 1)), (6, T.one (V.int .i64 i))], [(2, Ob.mk 1 (some (Con.mk 31 2 false [[V.arr 1 (List.map c_LI s_.1), V.arr 1 (List.map c_I s_.2)]]))), (3, Ob.mk 1 (some (Con.mk 28 2 false [[V.arr 1 (List.map c_I p.1), V.int .i64 p.2]]))), (900, Ob.mk 1 (some (Con.mk 3 1 true (List.map c_I [])))), (7, Ob.mk 1 (some (Con.mk 3 1 true (List.map c_I o7))))]⟩
def spec_l2Mistakes_l0_X0 (s_ : ((List (List Int)) × (List Int))) (p : ((List Int) × Int)) (o7 : (List Int)) : St := ⟨mkSl 33 [(4, T.one (V.ref 900 1)), (5, T.one (V.ref 7 1))], [(900, Ob.mk 1 (some (Con.mk 3 1 true (List.map c_I [])))), (7, Ob.mk 1 (some (Con.mk 3 1 true (List.map c_I o7))))]⟩
def spec_l2Mistakes_l0_G (s_ : ((List (List Int)) × (List Int))) (p : ((List Int) × Int)) : ((List Int) × Int) ⊕ (List Int) → AExit × St
  | .inl s => (.normal, spec_l2Mistakes_l0_S s_ p s.1 s.2)
  | .inr d => ((.exit 0), spec_l2Mistakes_l0_X0 s_ p d)
noncomputable def spec_l2Mistakes_l0 (s_ : ((List (List Int)) × (List Int))) (p : ((List Int) × Int)) (o7 : (List Int)) (i : Int) : Sc Try.prog (((List Int) × Int) ⊕ (List Int)) :=
  .go <|
  .brc (decide ((i : Int) < (ln c_LI s_.1)))
  (get 4 c_LI s_.1 i fun x1 =>
  call 6 (ok_spec_l2Side p x1) [] [] [] [] fun x2 =>
  get 10 c_I s_.2 i fun x3 =>
  .go <|
  .brc ((x2 : Int) != x3)
  (chs 2 .tree <|
  app 3 c_I 8 o7 ([i] : List Int) <|
  .go <|
  .go <|
  .ret [2, 3, 4, 5, 6] [2, 3, 900, 7] (.inl ((o7 ++ ([i] : List Int)), (w64 (i + 1)))))
  (.go <|
  .ret [2, 3, 4, 5, 6] [2, 3, 900, 7] (.inl (o7, (w64 (i + 1))))))
  (.ret [4, 5] [900, 7] (.inr o7))
noncomputable def m_spec_l2Mistakes_l0 (s_ : ((List (List Int)) × (List Int))) (p : ((List Int) × Int)) (s : ((List Int) × Int)) : Option (List Int) := lrun (fun s => den (spec_l2Mistakes_l0 s_ p s.1 s.2)) s
theorem ok_spec_l2Mistakes_l0 (s_ : ((List (List Int)) × (List Int))) (p : ((List Int) × Int)) (s : ((List Int) × Int)) (d : (List Int)) (h : m_spec_l2Mistakes_l0 s_ p s = some d) : ExecOK Try.prog (.loop (bodyOf Try.prog n_spec_l2Mistakes 0)) (spec_l2Mistakes_l0_S s_ p s.1 s.2) (spec_l2Mistakes_l0_G s_ p (.inr d)).1 (spec_l2Mistakes_l0_G s_ p (.inr d)).2 :=
  loopOK mixed (G := spec_l2Mistakes_l0_G s_ p) (sc := fun s => spec_l2Mistakes_l0 s_ p s.1 s.2) (fun s => by kernel_rfl) (fun _ => rfl) (fun d => rfl) s d h
noncomputable def s_spec_l2Mistakes (s_ : ((List (List Int)) × (List Int))) (p : ((List Int) × Int)) : Sc Try.prog ((List Int)) :=
  chs 2 (.own [(0, 900, 3, 1)]) <|
  .go <|
  .go <|
  .go <|
  lp (ok_spec_l2Mistakes_l0 s_ p ([], 0)) [2, 3, 4, 5, 6] [2, 3, 900, 7] fun x4 =>
  .go <|
  .ret [7] [] x4
noncomputable def m_spec_l2Mistakes (s_ : ((List (List Int)) × (List Int))) (p : ((List Int) × Int)) : Option ((List Int)) := den (s_spec_l2Mistakes s_ p)
theorem ok_spec_l2Mistakes (s_ : ((List (List Int)) × (List Int))) (p : ((List Int) × Int)) : ∀ r, m_spec_l2Mistakes s_ p = some r → CallOK Try.prog n_spec_l2Mistakes [T.agg (c_P2_LLI_LI s_), T.agg (c_P2_LI_I p)] [] (T.one (V.arr 1 (List.map c_I r))) [] :=
  fun r h => fnOK mixed (G := fun r => (T.one (V.arr 1 (List.map c_I r)), [])) (by kernel_rfl) r h

def spec_PocketPlane_l0_S (s_ : ((List (List Int)) × (List Int))) (x1 : ((List ((List Int) × Int)) × (List Int) × (List Int)) × Bool) (best : Int) (i : Int) : St := ⟨mkSl 49 [(2, T.one (V.ptr 2 1 0 0)), (4, T.one (V.ptr 4 1 0 0)), (5, T.one (V.bool false)), (6, T.one (V.ptr 6 1 0 0)), (8, T.one (V.int .i64 best)), (9, T.one (V.int .i64 i))], [(2, Ob.mk 1 (some (Con.mk 31 2 false [[V.arr 1 (List.map c_LI s_.1), V.arr 1 (List.map c_I s_.2)]]))), (4, Ob.mk 1 (some (Con.mk 28 2 false [[V.nil, V.int .i64 0]]))), (6, Ob.mk 1 (some (Con.mk 77 3 false [[V.arr 2 (List.map c_P2_LI_I x1.1.1), V.arr 1 (List.map c_I x1.1.2.1), V.arr 1 (List.map c_I x1.1.2.2)]])))]⟩
def spec_PocketPlane_l0_X0 (s_ : ((List (List Int)) × (List Int))) (x1 : ((List ((List Int) × Int)) × (List Int) × (List Int)) × Bool) (best : Int) : St := ⟨mkSl 49 [(4, T.one (V.ptr 4 1 0 0)), (5, T.one (V.bool false)), (6, T.one (V.ptr 6 1 0 0)), (8, T.one (V.int .i64 best))], [(4, Ob.mk 1 (some (Con.mk 28 2 false [[V.nil, V.int .i64 0]]))), (6, Ob.mk 1 (some (Con.mk 77 3 false [[V.arr 2 (List.map c_P2_LI_I x1.1.1), V.arr 1 (List.map c_I x1.1.2.1), V.arr 1 (List.map c_I x1.1.2.2)]])))]⟩
def spec_PocketPlane_l0_G (s_ : ((List (List Int)) × (List Int))) (x1 : ((List ((List Int) × Int)) × (List Int) × (List Int)) × Bool) : (Int × Int) ⊕ Int → AExit × St
  | .inl s => (.normal, spec_PocketPlane_l0_S s_ x1 s.1 s.2)
  | .inr d => ((.exit 0), spec_PocketPlane_l0_X0 s_ x1 d)
noncomputable def spec_PocketPlane_l0 (s_ : ((List (List Int)) × (List Int))) (x1 : ((List ((List Int) × Int)) × (List Int) × (List Int)) × Bool) (best : Int) (i : Int) : Sc Try.prog ((Int × Int) ⊕ Int) :=
  .go <|
  .brc (decide ((i : Int) < (ln c_P2_LI_I x1.1.1)))
  (get 4 c_P2_LI_I x1.1.1 i fun x2 =>
  call 6 (ok_spec_l2Mistakes s_ x2) [] [] [] [] fun x3 =>
  get 12 c_P2_LI_I x1.1.1 best fun x4 =>
  call 14 (ok_spec_l2Mistakes s_ x4) [] [] [] [] fun x5 =>
  .go <|
  .brc (decide (((ln c_I x3) : Int) < (ln c_I x5)))
  (.go <|
  .go <|
  .ret [2, 4, 5, 6, 8, 9] [2, 4, 6] (.inl (i, (w64 (i + 1)))))
  (.go <|
  .ret [2, 4, 5, 6, 8, 9] [2, 4, 6] (.inl (best, (w64 (i + 1))))))
  (.ret [4, 5, 6, 8] [4, 6] (.inr best))
noncomputable def m_spec_PocketPlane_l0 (s_ : ((List (List Int)) × (List Int))) (x1 : ((List ((List Int) × Int)) × (List Int) × (List Int)) × Bool) (s : (Int × Int)) : Option Int := lrun (fun s => den (spec_PocketPlane_l0 s_ x1 s.1 s.2)) s
theorem ok_spec_PocketPlane_l0 (s_ : ((List (List Int)) × (List Int))) (x1 : ((List ((List Int) × Int)) × (List Int) × (List Int)) × Bool) (s : (Int × Int)) (d : Int) (h : m_spec_PocketPlane_l0 s_ x1 s = some d) : ExecOK Try.prog (.loop (bodyOf Try.prog n_spec_PocketPlane 0)) (spec_PocketPlane_l0_S s_ x1 s.1 s.2) (spec_PocketPlane_l0_G s_ x1 (.inr d)).1 (spec_PocketPlane_l0_G s_ x1 (.inr d)).2 :=
  loopOK mixed (G := spec_PocketPlane_l0_G s_ x1) (sc := fun s => spec_PocketPlane_l0 s_ x1 s.1 s.2) (fun s => by kernel_rfl) (fun _ => rfl) (fun d => rfl) s d h
noncomputable def s_spec_PocketPlane (s_ : ((List (List Int)) × (List Int))) (rounds : Int) : Sc Try.prog (((List Int) × Int) × Bool) :=
  .go <|
  call 2 (ok_spec_l3Made s_ rounds) [] [] [] [] fun x1 =>
  .go <|
  .go <|
  .brc (!x1.2)
  (chs 0 (.wk (T.agg [V.arr 1 [], V.nil])) <|
  .go <|
  .ret [] [] (([], 0), false))
  (.go <|
  .go <|
  lp (ok_spec_PocketPlane_l0 s_ x1 (0, 1)) [2, 4, 5, 6, 8, 9] [2, 4, 6] fun x6 =>
  get 3 c_P2_LI_I x1.1.1 x6 fun x7 =>
  .go <|
  .ret [] [] (x7, true))
noncomputable def m_spec_PocketPlane (s_ : ((List (List Int)) × (List Int))) (rounds : Int) : Option (((List Int) × Int) × Bool) := den (s_spec_PocketPlane s_ rounds)
theorem ok_spec_PocketPlane (s_ : ((List (List Int)) × (List Int))) (rounds : Int) : ∀ r, m_spec_PocketPlane s_ rounds = some r → CallOK Try.prog n_spec_PocketPlane [T.agg (c_P2_LLI_LI s_), T.one (V.int .i64 rounds)] [] (T.tup [T.agg (c_P2_LI_I r.1), T.one (V.bool r.2)]) [] :=
  fun r h => fnOK mixed (G := fun r => (T.tup [T.agg (c_P2_LI_I r.1), T.one (V.bool r.2)], [])) (by kernel_rfl) r h

noncomputable def s_laws_vCut (code : (List Int)) (n : Int) : Sc Try.prog ((List Int)) :=
  chs 0 (.own [(0, 900, 5, 1)]) <|
  .go <|
  .go <|
  .brc (decide ((n : Int) > (ln c_Y code)))
  (.go <|
  slc 3 c_Y code (ln c_Y code) (ln c_Y code) <|
  app 4 c_Y 1 [] (List.drop (Int.toNat (ln c_Y code)) (List.take (Int.toNat (ln c_Y code)) code)) <|
  chs 7 .tree <|
  app 8 c_Y 1 (List.drop (Int.toNat (ln c_Y code)) (List.take (Int.toNat (ln c_Y code)) code)) ([(w8 (ln c_Y code))] : List Int) <|
  .go <|
  .ret [11] [] ((List.drop (Int.toNat (ln c_Y code)) (List.take (Int.toNat (ln c_Y code)) code)) ++ ([(w8 (ln c_Y code))] : List Int)))
  (slc 3 c_Y code n (ln c_Y code) <|
  app 4 c_Y 1 [] (List.drop (Int.toNat n) (List.take (Int.toNat (ln c_Y code)) code)) <|
  chs 7 .tree <|
  app 8 c_Y 1 (List.drop (Int.toNat n) (List.take (Int.toNat (ln c_Y code)) code)) ([(w8 n)] : List Int) <|
  .go <|
  .ret [11] [] ((List.drop (Int.toNat n) (List.take (Int.toNat (ln c_Y code)) code)) ++ ([(w8 n)] : List Int)))
noncomputable def m_laws_vCut (code : (List Int)) (n : Int) : Option ((List Int)) := den (s_laws_vCut code n)
theorem ok_laws_vCut (code : (List Int)) (n : Int) : ∀ r, m_laws_vCut code n = some r → CallOK Try.prog n_laws_vCut [T.one (V.arr 1 (List.map c_Y code)), T.one (V.int .i64 n)] [] (T.one (V.arr 1 (List.map c_Y r))) [] :=
  fun r h => fnOK mixed (G := fun r => (T.one (V.arr 1 (List.map c_Y r)), [])) (by kernel_rfl) r h

end Go.Abs
