import Derived.Test.YtkjlebnmeimfnaaGxN
import Derived.Test.YtkjlebnmeimfnaaGx1
import Derived.Test.YtkjlebnmeimfnaaGx2
namespace Go.Abs
open Go.Proofs

def impl_runOf_l1_S (s_ : ((List (List Int)) × (List Int))) (rounds : Int) (o901 : (List Int)) (t39 : Int) (p2 : (List Int)) (p12 : Int) (o362 : (List ((List Int) × Int))) (o9002 : (List Int)) (mistakes : Int) (t44 : Int) : St := ⟨mkSl 91 [(2, T.one (V.ptr 2 1 0 0)), (4, T.one (V.ptr 4 1 0 0)), (5, T.one (V.bool false)), (6, T.one (V.ptr 6 1 0 0)), (7, T.one (V.ptr 7 1 0 0)), (8, T.one (V.int .i64 mistakes)), (38, T.one (V.int .i64 rounds)), (39, T.one (V.int .i64 t39)), (42, T.one (V.arr 1 (List.map c_LI s_.1))), (43, T.one (V.int .i64 (ln c_LI s_.1))), (44, T.one (V.int .i64 t44))], [(2, Ob.mk 1 (some (Con.mk 31 2 false [[V.arr 1 (List.map c_LI s_.1), V.arr 1 (List.map c_I s_.2)]]))), (4, Ob.mk 1 (some (Con.mk 84 3 false [[V.nil, V.nil, V.nil]]))), (6, Ob.mk 1 (some (Con.mk 28 2 false [[V.arr 1 (List.map c_I p2), V.int .i64 p12]]))), (7, Ob.mk 1 (some (Con.mk 84 3 false [[V.ref 36 1, V.ref 900 1, V.ref 901 1]]))), (36, Ob.mk 1 (some (Con.mk 28 2 true (List.map c_P2_LI_I o362)))), (900, Ob.mk 1 (some (Con.mk 3 1 true (List.map c_I o9002)))), (901, Ob.mk 1 (some (Con.mk 3 1 true (List.map c_I o901))))]⟩
def impl_runOf_l1_X0 (s_ : ((List (List Int)) × (List Int))) (rounds : Int) (o901 : (List Int)) (t39 : Int) : St := ⟨mkSl 91 [(4, T.one (V.ptr 4 1 0 0)), (5, T.one (V.bool false))], [(4, Ob.mk 1 (some (Con.mk 84 3 false [[V.arr 2 (List.map c_P2_LI_I []), V.arr 1 (List.map c_I []), V.arr 1 (List.map c_I [])]])))]⟩
def impl_runOf_l1_X1 (s_ : ((List (List Int)) × (List Int))) (rounds : Int) (o901 : (List Int)) (t39 : Int) (p2 : (List Int)) (p12 : Int) (o362 : (List ((List Int) × Int))) (o9002 : (List Int)) (mistakes : Int) : St := ⟨mkSl 91 [(2, T.one (V.ptr 2 1 0 0)), (4, T.one (V.ptr 4 1 0 0)), (5, T.one (V.bool false)), (6, T.one (V.ptr 6 1 0 0)), (7, T.one (V.ptr 7 1 0 0)), (8, T.one (V.int .i64 mistakes)), (38, T.one (V.int .i64 rounds)), (39, T.one (V.int .i64 t39))], [(2, Ob.mk 1 (some (Con.mk 31 2 false [[V.arr 1 (List.map c_LI s_.1), V.arr 1 (List.map c_I s_.2)]]))), (4, Ob.mk 1 (some (Con.mk 84 3 false [[V.nil, V.nil, V.nil]]))), (6, Ob.mk 1 (some (Con.mk 28 2 false [[V.arr 1 (List.map c_I p2), V.int .i64 p12]]))), (7, Ob.mk 1 (some (Con.mk 84 3 false [[V.ref 36 1, V.ref 900 1, V.ref 901 1]]))), (36, Ob.mk 1 (some (Con.mk 28 2 true (List.map c_P2_LI_I o362)))), (900, Ob.mk 1 (some (Con.mk 3 1 true (List.map c_I o9002)))), (901, Ob.mk 1 (some (Con.mk 3 1 true (List.map c_I o901))))]⟩
def impl_runOf_l1_G (s_ : ((List (List Int)) × (List Int))) (rounds : Int) (o901 : (List Int)) (t39 : Int) : ((List Int) × Int × (List ((List Int) × Int)) × (List Int) × Int × Int) ⊕ (Unit ⊕ ((List Int) × Int × (List ((List Int) × Int)) × (List Int) × Int)) → AExit × St
  | .inl s => (.normal, impl_runOf_l1_S s_ rounds o901 t39 s.1 s.2.1 s.2.2.1 s.2.2.2.1 s.2.2.2.2.1 s.2.2.2.2.2)
  | .inr (.inl d) => (.ret, impl_runOf_l1_X0 s_ rounds o901 t39)
  | .inr (.inr d) => ((.exit 2), impl_runOf_l1_X1 s_ rounds o901 t39 d.1 d.2.1 d.2.2.1 d.2.2.2.1 d.2.2.2.2)
noncomputable def impl_runOf_l1 (s_ : ((List (List Int)) × (List Int))) (rounds : Int) (o901 : (List Int)) (t39 : Int) (p2 : (List Int)) (p12 : Int) (o362 : (List ((List Int) × Int))) (o9002 : (List Int)) (mistakes : Int) (t44 : Int) : Sc Try.prog (((List Int) × Int × (List ((List Int) × Int)) × (List Int) × Int × Int) ⊕ (Unit ⊕ ((List Int) × Int × (List ((List Int) × Int)) × (List Int) × Int))) :=
  .go <|
  .brc (decide ((t44 : Int) < (ln c_LI s_.1)))
  (get 1 c_LI s_.1 t44 fun x4 =>
  .go <|
  get 5 c_I s_.2 t44 fun x5 =>
  call 7 (ok_impl_Plane_step (p2, p12) x4 x5) [] [] [] [] fun x6 =>
  .go <|
  call 1 (ok_impl_IsPlane x6.1) [] [] [] [] fun x7 =>
  .go <|
  .brc (!x7)
  (chs 0 (.wk (T.agg [V.arr 2 [], V.arr 1 [], V.arr 1 []])) <|
  .go <|
  .ret [4, 5] [4] (.inr (.inl ())))
  (.go <|
  .brc x6.2
  (.go <|
  chs 3 .tree <|
  app 4 c_P2_LI_I 32 o362 ([x6.1] : List ((List Int) × Int)) <|
  chs 8 .tree <|
  app 9 c_I 8 o9002 ([t44] : List Int) <|
  .go <|
  .go <|
  .go <|
  .ret [2, 4, 5, 6, 7, 8, 38, 39, 42, 43, 44] [2, 4, 6, 7, 36, 900, 901] (.inl (x6.1.1, x6.1.2, (o362 ++ ([x6.1] : List ((List Int) × Int))), (o9002 ++ ([t44] : List Int)), (w64 (mistakes + 1)), (w64 (t44 + 1)))))
  (.go <|
  .go <|
  .ret [2, 4, 5, 6, 7, 8, 38, 39, 42, 43, 44] [2, 4, 6, 7, 36, 900, 901] (.inl (x6.1.1, x6.1.2, o362, o9002, mistakes, (w64 (t44 + 1)))))))
  (.ret [2, 4, 5, 6, 7, 8, 38, 39] [2, 4, 6, 7, 36, 900, 901] (.inr (.inr (p2, p12, o362, o9002, mistakes))))
noncomputable def m_impl_runOf_l1 (s_ : ((List (List Int)) × (List Int))) (rounds : Int) (o901 : (List Int)) (t39 : Int) (s : ((List Int) × Int × (List ((List Int) × Int)) × (List Int) × Int × Int)) : Option (Unit ⊕ ((List Int) × Int × (List ((List Int) × Int)) × (List Int) × Int)) := lrun (fun s => den (impl_runOf_l1 s_ rounds o901 t39 s.1 s.2.1 s.2.2.1 s.2.2.2.1 s.2.2.2.2.1 s.2.2.2.2.2)) s
theorem ok_impl_runOf_l1 (s_ : ((List (List Int)) × (List Int))) (rounds : Int) (o901 : (List Int)) (t39 : Int) (s : ((List Int) × Int × (List ((List Int) × Int)) × (List Int) × Int × Int)) (d : (Unit ⊕ ((List Int) × Int × (List ((List Int) × Int)) × (List Int) × Int))) (h : m_impl_runOf_l1 s_ rounds o901 t39 s = some d) : ExecOK Try.prog (.loop (bodyOf Try.prog n_impl_runOf 1)) (impl_runOf_l1_S s_ rounds o901 t39 s.1 s.2.1 s.2.2.1 s.2.2.2.1 s.2.2.2.2.1 s.2.2.2.2.2) (impl_runOf_l1_G s_ rounds o901 t39 (.inr d)).1 (impl_runOf_l1_G s_ rounds o901 t39 (.inr d)).2 :=
  loopOK mixed (G := impl_runOf_l1_G s_ rounds o901 t39) (sc := fun s => impl_runOf_l1 s_ rounds o901 t39 s.1 s.2.1 s.2.2.1 s.2.2.2.1 s.2.2.2.2.1 s.2.2.2.2.2) (fun s => by kernel_rfl) (fun _ => rfl) (fun d => by rcases d with d | d <;> rfl) s d h
def impl_runOf_l0_S (s_ : ((List (List Int)) × (List Int))) (rounds : Int) (p : (List Int)) (p1 : Int) (o36 : (List ((List Int) × Int))) (o900 : (List Int)) (o901 : (List Int)) (t39 : Int) : St := ⟨mkSl 91 [(2, T.one (V.ptr 2 1 0 0)), (4, T.one (V.ptr 4 1 0 0)), (5, T.one (V.bool false)), (6, T.one (V.ptr 6 1 0 0)), (7, T.one (V.ptr 7 1 0 0)), (38, T.one (V.int .i64 rounds)), (39, T.one (V.int .i64 t39))], [(2, Ob.mk 1 (some (Con.mk 31 2 false [[V.arr 1 (List.map c_LI s_.1), V.arr 1 (List.map c_I s_.2)]]))), (4, Ob.mk 1 (some (Con.mk 84 3 false [[V.nil, V.nil, V.nil]]))), (6, Ob.mk 1 (some (Con.mk 28 2 false [[V.arr 1 (List.map c_I p), V.int .i64 p1]]))), (7, Ob.mk 1 (some (Con.mk 84 3 false [[V.ref 36 1, V.ref 900 1, V.ref 901 1]]))), (36, Ob.mk 1 (some (Con.mk 28 2 true (List.map c_P2_LI_I o36)))), (900, Ob.mk 1 (some (Con.mk 3 1 true (List.map c_I o900)))), (901, Ob.mk 1 (some (Con.mk 3 1 true (List.map c_I o901))))]⟩
def impl_runOf_l0_X0 (s_ : ((List (List Int)) × (List Int))) (rounds : Int) : St := ⟨mkSl 91 [(4, T.one (V.ptr 4 1 0 0)), (5, T.one (V.bool false))], [(4, Ob.mk 1 (some (Con.mk 84 3 false [[V.arr 2 (List.map c_P2_LI_I []), V.arr 1 (List.map c_I []), V.arr 1 (List.map c_I [])]])))]⟩
def impl_runOf_l0_X1 (s_ : ((List (List Int)) × (List Int))) (rounds : Int) (o36 : (List ((List Int) × Int))) (o900 : (List Int)) (o901 : (List Int)) : St := ⟨mkSl 91 [(4, T.one (V.ptr 4 1 0 0)), (5, T.one (V.bool false)), (7, T.one (V.ptr 7 1 0 0))], [(4, Ob.mk 1 (some (Con.mk 84 3 false [[V.nil, V.nil, V.nil]]))), (7, Ob.mk 1 (some (Con.mk 84 3 false [[V.ref 36 1, V.ref 900 1, V.ref 901 1]]))), (36, Ob.mk 1 (some (Con.mk 28 2 true (List.map c_P2_LI_I o36)))), (900, Ob.mk 1 (some (Con.mk 3 1 true (List.map c_I o900)))), (901, Ob.mk 1 (some (Con.mk 3 1 true (List.map c_I o901))))]⟩
def impl_runOf_l0_G (s_ : ((List (List Int)) × (List Int))) (rounds : Int) : ((List Int) × Int × (List ((List Int) × Int)) × (List Int) × (List Int) × Int) ⊕ (Unit ⊕ ((List ((List Int) × Int)) × (List Int) × (List Int))) → AExit × St
  | .inl s => (.normal, impl_runOf_l0_S s_ rounds s.1 s.2.1 s.2.2.1 s.2.2.2.1 s.2.2.2.2.1 s.2.2.2.2.2)
  | .inr (.inl d) => (.ret, impl_runOf_l0_X0 s_ rounds)
  | .inr (.inr d) => ((.exit 0), impl_runOf_l0_X1 s_ rounds d.1 d.2.1 d.2.2)
noncomputable def impl_runOf_l0 (s_ : ((List (List Int)) × (List Int))) (rounds : Int) (p : (List Int)) (p1 : Int) (o36 : (List ((List Int) × Int))) (o900 : (List Int)) (o901 : (List Int)) (t39 : Int) : Sc Try.prog (((List Int) × Int × (List ((List Int) × Int)) × (List Int) × (List Int) × Int) ⊕ (Unit ⊕ ((List ((List Int) × Int)) × (List Int) × (List Int)))) :=
  .go <|
  .brc (decide ((t39 : Int) < rounds))
  (.go <|
  .go <|
  lp2 (ok_impl_runOf_l1 s_ rounds o901 t39 (p, p1, o36, o900, 0, 0)) [2, 4, 5, 6, 7, 8, 38, 39, 42, 43, 44] [2, 4, 6, 7, 36, 900, 901]
  (fun x8 =>
  .ret [4, 5] [4] (.inr (.inl ())))
  (fun x9 =>
  chs 3 .tree <|
  app 4 c_I 8 o901 ([x9.2.2.2.2] : List Int) <|
  .go <|
  .go <|
  .brc ((x9.2.2.2.2 : Int) == 0)
  (.ret [4, 5, 7] [4, 7, 36, 900, 901] (.inr (.inr (x9.2.2.1, x9.2.2.2.1, (o901 ++ ([x9.2.2.2.2] : List Int))))))
  (.go <|
  .ret [2, 4, 5, 6, 7, 38, 39] [2, 4, 6, 7, 36, 900, 901] (.inl (x9.1, x9.2.1, x9.2.2.1, x9.2.2.2.1, (o901 ++ ([x9.2.2.2.2] : List Int)), (w64 (t39 + 1)))))))
  (.ret [4, 5, 7] [4, 7, 36, 900, 901] (.inr (.inr (o36, o900, o901))))
noncomputable def m_impl_runOf_l0 (s_ : ((List (List Int)) × (List Int))) (rounds : Int) (s : ((List Int) × Int × (List ((List Int) × Int)) × (List Int) × (List Int) × Int)) : Option (Unit ⊕ ((List ((List Int) × Int)) × (List Int) × (List Int))) := lrun (fun s => den (impl_runOf_l0 s_ rounds s.1 s.2.1 s.2.2.1 s.2.2.2.1 s.2.2.2.2.1 s.2.2.2.2.2)) s
theorem ok_impl_runOf_l0 (s_ : ((List (List Int)) × (List Int))) (rounds : Int) (s : ((List Int) × Int × (List ((List Int) × Int)) × (List Int) × (List Int) × Int)) (d : (Unit ⊕ ((List ((List Int) × Int)) × (List Int) × (List Int)))) (h : m_impl_runOf_l0 s_ rounds s = some d) : ExecOK Try.prog (.loop (bodyOf Try.prog n_impl_runOf 0)) (impl_runOf_l0_S s_ rounds s.1 s.2.1 s.2.2.1 s.2.2.2.1 s.2.2.2.2.1 s.2.2.2.2.2) (impl_runOf_l0_G s_ rounds (.inr d)).1 (impl_runOf_l0_G s_ rounds (.inr d)).2 :=
  loopOK mixed (G := impl_runOf_l0_G s_ rounds) (sc := fun s => impl_runOf_l0 s_ rounds s.1 s.2.1 s.2.2.1 s.2.2.2.1 s.2.2.2.2.1 s.2.2.2.2.2) (fun s => by kernel_rfl) (fun _ => rfl) (fun d => by rcases d with d | d <;> rfl) s d h
noncomputable def s_impl_runOf (s_ : ((List (List Int)) × (List Int))) (rounds : Int) : Sc Try.prog (((List ((List Int) × Int)) × (List Int) × (List Int)) × Bool) :=
  .go <|
  call 1 (ok_impl_IsSample s_) [] [] [] [] fun x1 =>
  .br 3 (!x1)
  (.go <|
  .brk true <|
  chs 0 (.wk (T.agg [V.arr 2 [], V.arr 1 [], V.arr 1 []])) <|
  .go <|
  .ret [] [] (([], [], []), false))
  (.br 9 (((ln c_LI s_.1) : Int) == 0)
  (.go <|
  .brk true <|
  chs 0 (.wk (T.agg [V.arr 2 [], V.arr 1 [], V.arr 1 []])) <|
  .go <|
  .ret [] [] (([], [], []), false))
  (call 11 (ok_impl_within rounds 1 12) [] [] [] [] fun x2 =>
  .go <|
  .brc (!x2)
  (chs 0 (.wk (T.agg [V.arr 2 [], V.arr 1 [], V.arr 1 []])) <|
  .go <|
  .ret [] [] (([], [], []), false))
  (get 2 c_LI s_.1 0 fun x3 =>
  mk 5 c_I 8 (ln c_I x3) 0 <|
  .go <|
  .frz [33] <|
  chs 2 (.own [(1, 900, 3, 1), (2, 901, 3, 1)]) <|
  .go <|
  .go <|
  lp2 (ok_impl_runOf_l0 s_ rounds ((List.replicate (Int.toNat (ln c_I x3)) 0), 0, ([((List.replicate (Int.toNat (ln c_I x3)) 0), 0)] : List ((List Int) × Int)), [], [], 0)) [2, 4, 5, 6, 7, 38, 39] [2, 4, 6, 7, 36, 900, 901]
  (fun x10 =>
  .ret [] [] (([], [], []), false))
  (fun x11 =>
  .go <|
  .ret [36, 900, 901] [] (x11, true)))))
noncomputable def m_impl_runOf (s_ : ((List (List Int)) × (List Int))) (rounds : Int) : Option (((List ((List Int) × Int)) × (List Int) × (List Int)) × Bool) := den (s_impl_runOf s_ rounds)
theorem ok_impl_runOf (s_ : ((List (List Int)) × (List Int))) (rounds : Int) : ∀ r, m_impl_runOf s_ rounds = some r → CallOK Try.prog n_impl_runOf [T.agg (c_P2_LLI_LI s_), T.one (V.int .i64 rounds)] [] (T.tup [T.agg (c_P3_LP2_LI_I_LI_LI r.1), T.one (V.bool r.2)]) [] :=
  fun r h => fnOK mixed (G := fun r => (T.tup [T.agg (c_P3_LP2_LI_I_LI_LI r.1), T.one (V.bool r.2)], [])) (by kernel_rfl) r h

noncomputable def s_impl_RunPerceptron (s_ : ((List (List Int)) × (List Int))) (rounds : Int) : Sc Try.prog (((List Int) × Int) × (List Int) × Bool) :=
  chs 2 (.wk (T.one (V.arr 1 []))) <|
  .go <|
  call 2 (ok_impl_runOf s_ rounds) [] [] [] [] fun x1 =>
  .go <|
  .go <|
  .brc (!x1.2)
  (chs 0 (.wk (T.agg [V.arr 1 [], V.nil])) <|
  chs 2 (.wk (T.one (V.arr 1 []))) <|
  .go <|
  .ret [] [] (([], 0), [], false))
  (get 6 c_P2_LI_I x1.1.1 (w64 ((ln c_P2_LI_I x1.1.1) - 1)) fun x2 =>
  .go <|
  .ret [] [] (x2, x1.1.2.2, true))
noncomputable def m_impl_RunPerceptron (s_ : ((List (List Int)) × (List Int))) (rounds : Int) : Option (((List Int) × Int) × (List Int) × Bool) := den (s_impl_RunPerceptron s_ rounds)
theorem ok_impl_RunPerceptron (s_ : ((List (List Int)) × (List Int))) (rounds : Int) : ∀ r, m_impl_RunPerceptron s_ rounds = some r → CallOK Try.prog n_impl_RunPerceptron [T.agg (c_P2_LLI_LI s_), T.one (V.int .i64 rounds)] [] (T.tup [T.agg (c_P2_LI_I r.1), T.one (V.arr 1 (List.map c_I r.2.1)), T.one (V.bool r.2.2)]) [] :=
  fun r h => fnOK mixed (G := fun r => (T.tup [T.agg (c_P2_LI_I r.1), T.one (V.arr 1 (List.map c_I r.2.1)), T.one (V.bool r.2.2)], [])) (by kernel_rfl) r h

def spec_l2Labels_l0_S (list : (List Int)) (i : Int) : St := ⟨mkSl 22 [(0, T.one (V.arr 1 (List.map c_I list))), (2, T.one (V.bool false)), (3, T.one (V.int .i64 i))], []⟩
def spec_l2Labels_l0_X0 (list : (List Int)) : St := ⟨mkSl 22 [(2, T.one (V.bool false))], []⟩
def spec_l2Labels_l0_X1 (list : (List Int)) : St := ⟨mkSl 22 [(2, T.one (V.bool false))], []⟩
def spec_l2Labels_l0_G (list : (List Int)) : Int ⊕ (Unit ⊕ Unit) → AExit × St
  | .inl s => (.normal, spec_l2Labels_l0_S list s)
  | .inr (.inl d) => (.ret, spec_l2Labels_l0_X0 list)
  | .inr (.inr d) => ((.exit 0), spec_l2Labels_l0_X1 list)
noncomputable def spec_l2Labels_l0 (list : (List Int)) (i : Int) : Sc Try.prog (Int ⊕ (Unit ⊕ Unit)) :=
  .go <|
  .brc (decide ((i : Int) < (ln c_I list)))
  (get 2 c_I list i fun x1 =>
  .br 5 ((x1 : Int) != 1)
  (get 8 c_I list i fun x2 =>
  .go <|
  .brc ((x2 : Int) != (-1))
  (.go <|
  .ret [2] [] (.inr (.inl ())))
  (.go <|
  .ret [0, 2, 3] [] (.inl (w64 (i + 1)))))
  (.go <|
  .brk false <|
  .go <|
  .ret [0, 2, 3] [] (.inl (w64 (i + 1)))))
  (.ret [2] [] (.inr (.inr ())))
noncomputable def m_spec_l2Labels_l0 (list : (List Int)) (s : Int) : Option (Unit ⊕ Unit) := lrun (fun s => den (spec_l2Labels_l0 list s)) s
theorem ok_spec_l2Labels_l0 (list : (List Int)) (s : Int) (d : (Unit ⊕ Unit)) (h : m_spec_l2Labels_l0 list s = some d) : ExecOK Try.prog (.loop (bodyOf Try.prog n_spec_l2Labels 0)) (spec_l2Labels_l0_S list s) (spec_l2Labels_l0_G list (.inr d)).1 (spec_l2Labels_l0_G list (.inr d)).2 :=
  loopOK mixed (G := spec_l2Labels_l0_G list) (sc := fun s => spec_l2Labels_l0 list s) (fun s => by kernel_rfl) (fun _ => rfl) (fun d => by rcases d with d | d <;> rfl) s d h
noncomputable def s_spec_l2Labels (list : (List Int)) : Sc Try.prog (Bool) :=
  .go <|
  .go <|
  lp2 (ok_spec_l2Labels_l0 list 0) [0, 2, 3] []
  (fun x3 =>
  .ret [] [] false)
  (fun x4 =>
  .go <|
  .ret [] [] true)
noncomputable def m_spec_l2Labels (list : (List Int)) : Option (Bool) := den (s_spec_l2Labels list)
theorem ok_spec_l2Labels (list : (List Int)) : ∀ r, m_spec_l2Labels list = some r → CallOK Try.prog n_spec_l2Labels [T.one (V.arr 1 (List.map c_I list))] [] (T.one (V.bool r)) [] :=
  fun r h => fnOK mixed (G := fun r => (T.one (V.bool r), [])) (by kernel_rfl) r h

def spec_l2Sample_l0_S (s_ : ((List (List Int)) × (List Int))) (i : Int) : St := ⟨mkSl 51 [(1, T.one (V.ptr 1 1 0 0)), (2, T.one (V.bool false)), (3, T.one (V.int .i64 i))], [(1, Ob.mk 1 (some (Con.mk 31 2 false [[V.arr 1 (List.map c_LI s_.1), V.arr 1 (List.map c_I s_.2)]])))]⟩
def spec_l2Sample_l0_X0 (s_ : ((List (List Int)) × (List Int))) : St := ⟨mkSl 51 [(2, T.one (V.bool false))], []⟩
def spec_l2Sample_l0_X1 (s_ : ((List (List Int)) × (List Int))) : St := ⟨mkSl 51 [(2, T.one (V.bool false))], []⟩
def spec_l2Sample_l0_G (s_ : ((List (List Int)) × (List Int))) : Int ⊕ (Unit ⊕ Unit) → AExit × St
  | .inl s => (.normal, spec_l2Sample_l0_S s_ s)
  | .inr (.inl d) => (.ret, spec_l2Sample_l0_X0 s_)
  | .inr (.inr d) => ((.exit 0), spec_l2Sample_l0_X1 s_)
noncomputable def spec_l2Sample_l0 (s_ : ((List (List Int)) × (List Int))) (i : Int) : Sc Try.prog (Int ⊕ (Unit ⊕ Unit)) :=
  .go <|
  .brc (decide ((i : Int) < (ln c_LI s_.1)))
  (get 3 c_LI s_.1 i fun x2 =>
  call 5 (ok_spec_l2Point x2) [] [] [] [] fun x3 =>
  .br 7 (!x3)
  (.go <|
  .brk true <|
  .go <|
  .ret [2] [] (.inr (.inl ())))
  (get 11 c_LI s_.1 i fun x4 =>
  get 16 c_LI s_.1 0 fun x5 =>
  .go <|
  .brc (((ln c_I x4) : Int) != (ln c_I x5))
  (.go <|
  .ret [2] [] (.inr (.inl ())))
  (.go <|
  .ret [1, 2, 3] [1] (.inl (w64 (i + 1))))))
  (.ret [2] [] (.inr (.inr ())))
noncomputable def m_spec_l2Sample_l0 (s_ : ((List (List Int)) × (List Int))) (s : Int) : Option (Unit ⊕ Unit) := lrun (fun s => den (spec_l2Sample_l0 s_ s)) s
theorem ok_spec_l2Sample_l0 (s_ : ((List (List Int)) × (List Int))) (s : Int) (d : (Unit ⊕ Unit)) (h : m_spec_l2Sample_l0 s_ s = some d) : ExecOK Try.prog (.loop (bodyOf Try.prog n_spec_l2Sample 0)) (spec_l2Sample_l0_S s_ s) (spec_l2Sample_l0_G s_ (.inr d)).1 (spec_l2Sample_l0_G s_ (.inr d)).2 :=
  loopOK mixed (G := spec_l2Sample_l0_G s_) (sc := fun s => spec_l2Sample_l0 s_ s) (fun s => by kernel_rfl) (fun _ => rfl) (fun d => by rcases d with d | d <;> rfl) s d h
noncomputable def s_spec_l2Sample (s_ : ((List (List Int)) × (List Int))) : Sc Try.prog (Bool) :=
  .go <|
  .br 4 (decide (((ln c_LI s_.1) : Int) > 16))
  (.go <|
  .brk true <|
  .go <|
  .ret [] [] false)
  (.br 13 (((ln c_I s_.2) : Int) != (ln c_LI s_.1))
  (.go <|
  .brk true <|
  .go <|
  .ret [] [] false)
  (call 16 (ok_spec_l2Labels s_.2) [] [] [] [] fun x1 =>
  .go <|
  .brc (!x1)
  (.go <|
  .ret [] [] false)
  (.go <|
  lp2 (ok_spec_l2Sample_l0 s_ 0) [1, 2, 3] [1]
  (fun x6 =>
  .ret [] [] false)
  (fun x7 =>
  .go <|
  .ret [] [] true))))
noncomputable def m_spec_l2Sample (s_ : ((List (List Int)) × (List Int))) : Option (Bool) := den (s_spec_l2Sample s_)
theorem ok_spec_l2Sample (s_ : ((List (List Int)) × (List Int))) : ∀ r, m_spec_l2Sample s_ = some r → CallOK Try.prog n_spec_l2Sample [T.agg (c_P2_LLI_LI s_)] [] (T.one (V.bool r)) [] :=
  fun r h => fnOK mixed (G := fun r => (T.one (V.bool r), [])) (by kernel_rfl) r h

noncomputable def s_spec_l1Own_o0 (l : (List Int)) : Sc Try.prog ((List Int)) :=
  chs 0 (.own [(0, 900, 3, 1)]) <|
  .go <|
  app 2 c_I 8 [] l <|
  .go <|
  .ret [] [3] l
noncomputable def m_spec_l1Own_o0 (l : (List Int)) : Option ((List Int)) := den (s_spec_l1Own_o0 l)
theorem ok_spec_l1Own_o0 (l : (List Int)) : ∀ r, m_spec_l1Own_o0 l = some r → CallOK Try.prog n_spec_l1Own [T.one (V.arr 1 (List.map c_I l))] [] (T.one (V.ref 1000 1)) [Ob.mk 1 (some (Con.mk 3 1 true (List.map c_I r)))] :=
  fun r h => fnOK mixed (G := fun r => (T.one (V.ref 1000 1), [Ob.mk 1 (some (Con.mk 3 1 true (List.map c_I r)))])) (by kernel_rfl) r h

def spec_l3Step_l0_S (p : ((List Int) × Int)) (x_ : (List Int)) (label : Int) (o18 : (List Int)) (i : Int) : St := ⟨mkSl 47 [(1, T.one (V.arr 1 (List.map c_I x_))), (2, T.one (V.int .i64 label)), (6, T.one (V.ptr 6 1 0 0)), (7, T.one (V.bool false)), (8, T.one (V.ptr 8 1 0 0)), (9, T.one (V.int .i64 i))], [(6, Ob.mk 1 (some (Con.mk 28 2 false [[V.nil, V.int .i64 0]]))), (8, Ob.mk 1 (some (Con.mk 28 2 false [[V.ref 18 1, V.int .i64 (w64 (p.2 - label))]]))), (18, Ob.mk 1 (some (Con.mk 3 1 true (List.map c_I o18))))]⟩
def spec_l3Step_l0_X0 (p : ((List Int) × Int)) (x_ : (List Int)) (label : Int) (o18 : (List Int)) : St := ⟨mkSl 47 [(6, T.one (V.ptr 6 1 0 0)), (7, T.one (V.bool false)), (8, T.one (V.ptr 8 1 0 0))], [(6, Ob.mk 1 (some (Con.mk 28 2 false [[V.nil, V.int .i64 0]]))), (8, Ob.mk 1 (some (Con.mk 28 2 false [[V.ref 18 1, V.int .i64 (w64 (p.2 - label))]]))), (18, Ob.mk 1 (some (Con.mk 3 1 true (List.map c_I o18))))]⟩
def spec_l3Step_l0_G (p : ((List Int) × Int)) (x_ : (List Int)) (label : Int) : ((List Int) × Int) ⊕ (List Int) → AExit × St
  | .inl s => (.normal, spec_l3Step_l0_S p x_ label s.1 s.2)
  | .inr d => ((.exit 0), spec_l3Step_l0_X0 p x_ label d)
noncomputable def spec_l3Step_l0 (p : ((List Int) × Int)) (x_ : (List Int)) (label : Int) (o18 : (List Int)) (i : Int) : Sc Try.prog (((List Int) × Int) ⊕ (List Int)) :=
  .go <|
  .brc (decide ((i : Int) < (ln c_I x_)))
  (idx c_I o18 i <|
  ld 7 c_I o18 (Int.toNat i) fun x3 =>
  get 11 c_I x_ i fun x4 =>
  idx c_I o18 i <|
  upd 16 c_I o18 (Int.toNat i) (fun _ => (w64 (x3 + (w64 (label * x4))))) fun x5 =>
  .go <|
  .go <|
  .ret [1, 2, 6, 7, 8, 9] [6, 8, 18] (.inl ((List.set o18 (Int.toNat i) (w64 (x3 + (w64 (label * x4))))), (w64 (i + 1)))))
  (.ret [6, 7, 8] [6, 8, 18] (.inr o18))
noncomputable def m_spec_l3Step_l0 (p : ((List Int) × Int)) (x_ : (List Int)) (label : Int) (s : ((List Int) × Int)) : Option (List Int) := lrun (fun s => den (spec_l3Step_l0 p x_ label s.1 s.2)) s
theorem ok_spec_l3Step_l0 (p : ((List Int) × Int)) (x_ : (List Int)) (label : Int) (s : ((List Int) × Int)) (d : (List Int)) (h : m_spec_l3Step_l0 p x_ label s = some d) : ExecOK Try.prog (.loop (bodyOf Try.prog n_spec_l3Step 0)) (spec_l3Step_l0_S p x_ label s.1 s.2) (spec_l3Step_l0_G p x_ label (.inr d)).1 (spec_l3Step_l0_G p x_ label (.inr d)).2 :=
  loopOK mixed (G := spec_l3Step_l0_G p x_ label) (sc := fun s => spec_l3Step_l0 p x_ label s.1 s.2) (fun s => by kernel_rfl) (fun _ => rfl) (fun d => rfl) s d h
noncomputable def s_spec_l3Step (p : ((List Int) × Int)) (x_ : (List Int)) (label : Int) : Sc Try.prog (((List Int) × Int) × Bool) :=
  .go <|
  call 2 (ok_spec_l2Side p x_) [] [] [] [] fun x1 =>
  .go <|
  .brc ((x1 : Int) == label)
  (.go <|
  .ret [] [] (p, false))
  (call 2 (ok_spec_l1Own_o0 p.1) [] [] [] [18] fun x2 =>
  .go <|
  .go <|
  lp (ok_spec_l3Step_l0 p x_ label (x2, 0)) [1, 2, 6, 7, 8, 9] [6, 8, 18] fun x6 =>
  .go <|
  .ret [18] [] ((x6, (w64 (p.2 - label))), true))
noncomputable def m_spec_l3Step (p : ((List Int) × Int)) (x_ : (List Int)) (label : Int) : Option (((List Int) × Int) × Bool) := den (s_spec_l3Step p x_ label)
theorem ok_spec_l3Step (p : ((List Int) × Int)) (x_ : (List Int)) (label : Int) : ∀ r, m_spec_l3Step p x_ label = some r → CallOK Try.prog n_spec_l3Step [T.agg (c_P2_LI_I p), T.one (V.arr 1 (List.map c_I x_)), T.one (V.int .i64 label)] [] (T.tup [T.agg (c_P2_LI_I r.1), T.one (V.bool r.2)]) [] :=
  fun r h => fnOK mixed (G := fun r => (T.tup [T.agg (c_P2_LI_I r.1), T.one (V.bool r.2)], [])) (by kernel_rfl) r h

end Go.Abs
