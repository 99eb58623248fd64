import Derived.Test.YtkjlebnmeimfnaaGxN
import Derived.Test.YtkjlebnmeimfnaaGx0
import Derived.Test.YtkjlebnmeimfnaaGx1
import Derived.Test.YtkjlebnmeimfnaaGx2
import Derived.Test.YtkjlebnmeimfnaaGx3
namespace Go.Abs
open Go.Proofs

def spec_l3Made_l1_S (s_ : ((List (List Int)) × (List Int))) (rounds : Int) (o900 : (List Int)) (round : Int) (o342 : (List ((List Int) × Int))) (o352 : (List Int)) (many : Int) (i : Int) : St := ⟨mkSl 100 [(1, T.one (V.int .i64 rounds)), (2, T.one (V.ptr 2 1 0 0)), (4, T.one (V.ptr 4 1 0 0)), (5, T.one (V.bool false)), (6, T.one (V.ptr 6 1 0 0)), (7, T.one (V.int .i64 round)), (8, T.one (V.int .i64 many)), (9, T.one (V.int .i64 i))], [(2, Ob.mk 1 (some (Con.mk 31 2 false [[V.arr 1 (List.map c_LI s_.1), V.arr 1 (List.map c_I s_.2)]]))), (4, Ob.mk 1 (some (Con.mk 77 3 false [[V.nil, V.nil, V.nil]]))), (6, Ob.mk 1 (some (Con.mk 77 3 false [[V.ref 34 1, V.ref 35 1, V.ref 900 1]]))), (34, Ob.mk 1 (some (Con.mk 28 2 true (List.map c_P2_LI_I o342)))), (35, Ob.mk 1 (some (Con.mk 3 1 true (List.map c_I o352)))), (900, Ob.mk 1 (some (Con.mk 3 1 true (List.map c_I o900))))]⟩
def spec_l3Made_l1_X0 (s_ : ((List (List Int)) × (List Int))) (rounds : Int) (o900 : (List Int)) (round : Int) : St := ⟨mkSl 100 [(4, T.one (V.ptr 4 1 0 0)), (5, T.one (V.bool false))], [(4, Ob.mk 1 (some (Con.mk 77 3 false [[V.arr 2 (List.map c_P2_LI_I []), V.arr 1 (List.map c_I []), V.arr 1 (List.map c_I [])]])))]⟩
def spec_l3Made_l1_X1 (s_ : ((List (List Int)) × (List Int))) (rounds : Int) (o900 : (List Int)) (round : Int) (o342 : (List ((List Int) × Int))) (o352 : (List Int)) (many : Int) : St := ⟨mkSl 100 [(1, T.one (V.int .i64 rounds)), (2, T.one (V.ptr 2 1 0 0)), (4, T.one (V.ptr 4 1 0 0)), (5, T.one (V.bool false)), (6, T.one (V.ptr 6 1 0 0)), (7, T.one (V.int .i64 round)), (8, T.one (V.int .i64 many))], [(2, Ob.mk 1 (some (Con.mk 31 2 false [[V.arr 1 (List.map c_LI s_.1), V.arr 1 (List.map c_I s_.2)]]))), (4, Ob.mk 1 (some (Con.mk 77 3 false [[V.nil, V.nil, V.nil]]))), (6, Ob.mk 1 (some (Con.mk 77 3 false [[V.ref 34 1, V.ref 35 1, V.ref 900 1]]))), (34, Ob.mk 1 (some (Con.mk 28 2 true (List.map c_P2_LI_I o342)))), (35, Ob.mk 1 (some (Con.mk 3 1 true (List.map c_I o352)))), (900, Ob.mk 1 (some (Con.mk 3 1 true (List.map c_I o900))))]⟩
def spec_l3Made_l1_G (s_ : ((List (List Int)) × (List Int))) (rounds : Int) (o900 : (List Int)) (round : Int) : ((List ((List Int) × Int)) × (List Int) × Int × Int) ⊕ (Unit ⊕ ((List ((List Int) × Int)) × (List Int) × Int)) → AExit × St
  | .inl s => (.normal, spec_l3Made_l1_S s_ rounds o900 round s.1 s.2.1 s.2.2.1 s.2.2.2)
  | .inr (.inl d) => (.ret, spec_l3Made_l1_X0 s_ rounds o900 round)
  | .inr (.inr d) => ((.exit 2), spec_l3Made_l1_X1 s_ rounds o900 round d.1 d.2.1 d.2.2)
noncomputable def spec_l3Made_l1 (s_ : ((List (List Int)) × (List Int))) (rounds : Int) (o900 : (List Int)) (round : Int) (o342 : (List ((List Int) × Int))) (o352 : (List Int)) (many : Int) (i : Int) : Sc Try.prog (((List ((List Int) × Int)) × (List Int) × Int × Int) ⊕ (Unit ⊕ ((List ((List Int) × Int)) × (List Int) × Int))) :=
  .go <|
  .brc (decide ((i : Int) < (ln c_LI s_.1)))
  (idx c_P2_LI_I o342 (w64 ((ln c_P2_LI_I o342) - 1)) <|
  ld 7 c_P2_LI_I o342 (Int.toNat (w64 ((ln c_P2_LI_I o342) - 1))) fun x4 =>
  get 11 c_LI s_.1 i fun x5 =>
  get 16 c_I s_.2 i fun x6 =>
  call 18 (ok_spec_l3Step x4 x5 x6) [] [] [] [] fun x7 =>
  .go <|
  call 1 (ok_spec_l2Plane x7.1) [] [] [] [] fun x8 =>
  .go <|
  .brc (!x8)
  (chs 0 (.wk (T.agg [V.arr 2 [], V.arr 1 [], V.arr 1 []])) <|
  .go <|
  .ret [4, 5] [4] (.inr (.inl ())))
  (.go <|
  .brc x7.2
  (chs 3 .tree <|
  app 4 c_P2_LI_I 32 o342 ([x7.1] : List ((List Int) × Int)) <|
  .go <|
  chs 3 .tree <|
  app 4 c_I 8 o352 ([i] : List Int) <|
  .go <|
  .go <|
  .go <|
  .ret [1, 2, 4, 5, 6, 7, 8, 9] [2, 4, 6, 34, 35, 900] (.inl ((o342 ++ ([x7.1] : List ((List Int) × Int))), (o352 ++ ([i] : List Int)), (w64 (many + 1)), (w64 (i + 1)))))
  (.go <|
  .ret [1, 2, 4, 5, 6, 7, 8, 9] [2, 4, 6, 34, 35, 900] (.inl (o342, o352, many, (w64 (i + 1)))))))
  (.ret [1, 2, 4, 5, 6, 7, 8] [2, 4, 6, 34, 35, 900] (.inr (.inr (o342, o352, many))))
noncomputable def m_spec_l3Made_l1 (s_ : ((List (List Int)) × (List Int))) (rounds : Int) (o900 : (List Int)) (round : Int) (s : ((List ((List Int) × Int)) × (List Int) × Int × Int)) : Option (Unit ⊕ ((List ((List Int) × Int)) × (List Int) × Int)) := lrun (fun s => den (spec_l3Made_l1 s_ rounds o900 round s.1 s.2.1 s.2.2.1 s.2.2.2)) s
theorem ok_spec_l3Made_l1 (s_ : ((List (List Int)) × (List Int))) (rounds : Int) (o900 : (List Int)) (round : Int) (s : ((List ((List Int) × Int)) × (List Int) × Int × Int)) (d : (Unit ⊕ ((List ((List Int) × Int)) × (List Int) × Int))) (h : m_spec_l3Made_l1 s_ rounds o900 round s = some d) : ExecOK Try.prog (.loop (bodyOf Try.prog n_spec_l3Made 1)) (spec_l3Made_l1_S s_ rounds o900 round s.1 s.2.1 s.2.2.1 s.2.2.2) (spec_l3Made_l1_G s_ rounds o900 round (.inr d)).1 (spec_l3Made_l1_G s_ rounds o900 round (.inr d)).2 :=
  loopOK mixed (G := spec_l3Made_l1_G s_ rounds o900 round) (sc := fun s => spec_l3Made_l1 s_ rounds o900 round s.1 s.2.1 s.2.2.1 s.2.2.2) (fun s => by kernel_rfl) (fun _ => rfl) (fun d => by rcases d with d | d <;> rfl) s d h
def spec_l3Made_l0_S (s_ : ((List (List Int)) × (List Int))) (rounds : Int) (o34 : (List ((List Int) × Int))) (o35 : (List Int)) (o900 : (List Int)) (round : Int) : St := ⟨mkSl 100 [(1, T.one (V.int .i64 rounds)), (2, T.one (V.ptr 2 1 0 0)), (4, T.one (V.ptr 4 1 0 0)), (5, T.one (V.bool false)), (6, T.one (V.ptr 6 1 0 0)), (7, T.one (V.int .i64 round))], [(2, Ob.mk 1 (some (Con.mk 31 2 false [[V.arr 1 (List.map c_LI s_.1), V.arr 1 (List.map c_I s_.2)]]))), (4, Ob.mk 1 (some (Con.mk 77 3 false [[V.nil, V.nil, V.nil]]))), (6, Ob.mk 1 (some (Con.mk 77 3 false [[V.ref 34 1, V.ref 35 1, V.ref 900 1]]))), (34, Ob.mk 1 (some (Con.mk 28 2 true (List.map c_P2_LI_I o34)))), (35, Ob.mk 1 (some (Con.mk 3 1 true (List.map c_I o35)))), (900, Ob.mk 1 (some (Con.mk 3 1 true (List.map c_I o900))))]⟩
def spec_l3Made_l0_X0 (s_ : ((List (List Int)) × (List Int))) (rounds : Int) : St := ⟨mkSl 100 [(4, T.one (V.ptr 4 1 0 0)), (5, T.one (V.bool false))], [(4, Ob.mk 1 (some (Con.mk 77 3 false [[V.arr 2 (List.map c_P2_LI_I []), V.arr 1 (List.map c_I []), V.arr 1 (List.map c_I [])]])))]⟩
def spec_l3Made_l0_X1 (s_ : ((List (List Int)) × (List Int))) (rounds : Int) (o34 : (List ((List Int) × Int))) (o35 : (List Int)) (o900 : (List Int)) : St := ⟨mkSl 100 [(4, T.one (V.ptr 4 1 0 0)), (5, T.one (V.bool true))], [(4, Ob.mk 1 (some (Con.mk 77 3 false [[V.ref 34 1, V.ref 35 1, V.ref 900 1]]))), (34, Ob.mk 1 (some (Con.mk 28 2 true (List.map c_P2_LI_I o34)))), (35, Ob.mk 1 (some (Con.mk 3 1 true (List.map c_I o35)))), (900, Ob.mk 1 (some (Con.mk 3 1 true (List.map c_I o900))))]⟩
def spec_l3Made_l0_X2 (s_ : ((List (List Int)) × (List Int))) (rounds : Int) (o34 : (List ((List Int) × Int))) (o35 : (List Int)) (o900 : (List Int)) : St := ⟨mkSl 100 [(4, T.one (V.ptr 4 1 0 0)), (5, T.one (V.bool false)), (6, T.one (V.ptr 6 1 0 0))], [(4, Ob.mk 1 (some (Con.mk 77 3 false [[V.nil, V.nil, V.nil]]))), (6, Ob.mk 1 (some (Con.mk 77 3 false [[V.ref 34 1, V.ref 35 1, V.ref 900 1]]))), (34, Ob.mk 1 (some (Con.mk 28 2 true (List.map c_P2_LI_I o34)))), (35, Ob.mk 1 (some (Con.mk 3 1 true (List.map c_I o35)))), (900, Ob.mk 1 (some (Con.mk 3 1 true (List.map c_I o900))))]⟩
def spec_l3Made_l0_G (s_ : ((List (List Int)) × (List Int))) (rounds : Int) : ((List ((List Int) × Int)) × (List Int) × (List Int) × Int) ⊕ (Unit ⊕ ((List ((List Int) × Int)) × (List Int) × (List Int)) ⊕ ((List ((List Int) × Int)) × (List Int) × (List Int))) → AExit × St
  | .inl s => (.normal, spec_l3Made_l0_S s_ rounds s.1 s.2.1 s.2.2.1 s.2.2.2)
  | .inr (.inl d) => (.ret, spec_l3Made_l0_X0 s_ rounds)
  | .inr (.inr (.inl d)) => (.ret, spec_l3Made_l0_X1 s_ rounds d.1 d.2.1 d.2.2)
  | .inr (.inr (.inr d)) => ((.exit 0), spec_l3Made_l0_X2 s_ rounds d.1 d.2.1 d.2.2)
noncomputable def spec_l3Made_l0 (s_ : ((List (List Int)) × (List Int))) (rounds : Int) (o34 : (List ((List Int) × Int))) (o35 : (List Int)) (o900 : (List Int)) (round : Int) : Sc Try.prog (((List ((List Int) × Int)) × (List Int) × (List Int) × Int) ⊕ (Unit ⊕ ((List ((List Int) × Int)) × (List Int) × (List Int)) ⊕ ((List ((List Int) × Int)) × (List Int) × (List Int)))) :=
  .go <|
  .brc (decide ((round : Int) < rounds))
  (.go <|
  .go <|
  lp2 (ok_spec_l3Made_l1 s_ rounds o900 round (o34, o35, 0, 0)) [1, 2, 4, 5, 6, 7, 8, 9] [2, 4, 6, 34, 35, 900]
  (fun x9 =>
  .ret [4, 5] [4] (.inr (.inl ())))
  (fun x10 =>
  chs 3 .tree <|
  app 4 c_I 8 o900 ([x10.2.2] : List Int) <|
  .go <|
  .go <|
  .brc ((x10.2.2 : Int) == 0)
  (.go <|
  .ret [4, 5] [4, 34, 35, 900] (.inr (.inr (.inl (x10.1, x10.2.1, (o900 ++ ([x10.2.2] : List Int)))))))
  (.go <|
  .ret [1, 2, 4, 5, 6, 7] [2, 4, 6, 34, 35, 900] (.inl (x10.1, x10.2.1, (o900 ++ ([x10.2.2] : List Int)), (w64 (round + 1)))))))
  (.ret [4, 5, 6] [4, 6, 34, 35, 900] (.inr (.inr (.inr (o34, o35, o900)))))
noncomputable def m_spec_l3Made_l0 (s_ : ((List (List Int)) × (List Int))) (rounds : Int) (s : ((List ((List Int) × Int)) × (List Int) × (List Int) × Int)) : Option (Unit ⊕ ((List ((List Int) × Int)) × (List Int) × (List Int)) ⊕ ((List ((List Int) × Int)) × (List Int) × (List Int))) := lrun (fun s => den (spec_l3Made_l0 s_ rounds s.1 s.2.1 s.2.2.1 s.2.2.2)) s
theorem ok_spec_l3Made_l0 (s_ : ((List (List Int)) × (List Int))) (rounds : Int) (s : ((List ((List Int) × Int)) × (List Int) × (List Int) × Int)) (d : (Unit ⊕ ((List ((List Int) × Int)) × (List Int) × (List Int)) ⊕ ((List ((List Int) × Int)) × (List Int) × (List Int)))) (h : m_spec_l3Made_l0 s_ rounds s = some d) : ExecOK Try.prog (.loop (bodyOf Try.prog n_spec_l3Made 0)) (spec_l3Made_l0_S s_ rounds s.1 s.2.1 s.2.2.1 s.2.2.2) (spec_l3Made_l0_G s_ rounds (.inr d)).1 (spec_l3Made_l0_G s_ rounds (.inr d)).2 :=
  loopOK mixed (G := spec_l3Made_l0_G s_ rounds) (sc := fun s => spec_l3Made_l0 s_ rounds s.1 s.2.1 s.2.2.1 s.2.2.2) (fun s => by kernel_rfl) (fun _ => rfl) (fun d => by rcases d with d | d | d <;> rfl) s d h
noncomputable def s_spec_l3Made (s_ : ((List (List Int)) × (List Int))) (rounds : Int) : Sc Try.prog (((List ((List Int) × Int)) × (List Int) × (List Int)) × Bool) :=
  .go <|
  call 1 (ok_spec_l2Sample s_) [] [] [] [] fun x1 =>
  .br 3 (!x1)
  (.go <|
  .brk true <|
  chs 0 (.wk (T.agg [V.arr 2 [], V.arr 1 [], V.arr 1 []])) <|
  .go <|
  .ret [] [] (([], [], []), false))
  (.br 9 (((ln c_LI s_.1) : Int) == 0)
  (.go <|
  .brk true <|
  chs 0 (.wk (T.agg [V.arr 2 [], V.arr 1 [], V.arr 1 []])) <|
  .go <|
  .ret [] [] (([], [], []), false))
  (call 11 (ok_spec_l1In rounds 1 12) [] [] [] [] fun x2 =>
  .go <|
  .brc (!x2)
  (chs 0 (.wk (T.agg [V.arr 2 [], V.arr 1 [], V.arr 1 []])) <|
  .go <|
  .ret [] [] (([], [], []), false))
  (get 2 c_LI s_.1 0 fun x3 =>
  mk 5 c_I 8 (ln c_I x3) 0 <|
  chs 6 (.frz .std [32]) <|
  chs 9 (.own [(2, 900, 3, 1)]) <|
  .go <|
  .go <|
  lp3 (ok_spec_l3Made_l0 s_ rounds (([((List.replicate (Int.toNat (ln c_I x3)) 0), 0)] : List ((List Int) × Int)), [], [], 0)) [1, 2, 4, 5, 6, 7] [2, 4, 6, 34, 35, 900]
  (fun x11 =>
  .ret [] [] (([], [], []), false))
  (fun x12 =>
  .ret [34, 35, 900] [] (x12, true))
  (fun x13 =>
  .go <|
  .ret [34, 35, 900] [] (x13, true)))))
noncomputable def m_spec_l3Made (s_ : ((List (List Int)) × (List Int))) (rounds : Int) : Option (((List ((List Int) × Int)) × (List Int) × (List Int)) × Bool) := den (s_spec_l3Made s_ rounds)
theorem ok_spec_l3Made (s_ : ((List (List Int)) × (List Int))) (rounds : Int) : ∀ r, m_spec_l3Made s_ rounds = some r → CallOK Try.prog n_spec_l3Made [T.agg (c_P2_LLI_LI s_), T.one (V.int .i64 rounds)] [] (T.tup [T.agg (c_P3_LP2_LI_I_LI_LI r.1), T.one (V.bool r.2)]) [] :=
  fun r h => fnOK mixed (G := fun r => (T.tup [T.agg (c_P3_LP2_LI_I_LI_LI r.1), T.one (V.bool r.2)], [])) (by kernel_rfl) r h

noncomputable def s_spec_RunPerceptron (s_ : ((List (List Int)) × (List Int))) (rounds : Int) : Sc Try.prog (((List Int) × Int) × (List Int) × Bool) :=
  chs 2 (.wk (T.one (V.arr 1 []))) <|
  .go <|
  call 2 (ok_spec_l3Made s_ rounds) [] [] [] [] fun x1 =>
  .go <|
  .go <|
  .brc (!x1.2)
  (chs 0 (.wk (T.agg [V.arr 1 [], V.nil])) <|
  .go <|
  .ret [18] [] (([], 0), [], false))
  (get 6 c_P2_LI_I x1.1.1 (w64 ((ln c_P2_LI_I x1.1.1) - 1)) fun x2 =>
  .go <|
  .ret [] [] (x2, x1.1.2.2, true))
noncomputable def m_spec_RunPerceptron (s_ : ((List (List Int)) × (List Int))) (rounds : Int) : Option (((List Int) × Int) × (List Int) × Bool) := den (s_spec_RunPerceptron s_ rounds)
theorem ok_spec_RunPerceptron (s_ : ((List (List Int)) × (List Int))) (rounds : Int) : ∀ r, m_spec_RunPerceptron s_ rounds = some r → CallOK Try.prog n_spec_RunPerceptron [T.agg (c_P2_LLI_LI s_), T.one (V.int .i64 rounds)] [] (T.tup [T.agg (c_P2_LI_I r.1), T.one (V.arr 1 (List.map c_I r.2.1)), T.one (V.bool r.2.2)]) [] :=
  fun r h => fnOK mixed (G := fun r => (T.tup [T.agg (c_P2_LI_I r.1), T.one (V.arr 1 (List.map c_I r.2.1)), T.one (V.bool r.2.2)], [])) (by kernel_rfl) r h

noncomputable def s_impl_PerceptronTrace (s_ : ((List (List Int)) × (List Int))) (rounds : Int) : Sc Try.prog ((List Int) × Bool) :=
  chs 1 (.wk (T.one (V.arr 1 []))) <|
  .go <|
  call 2 (ok_impl_runOf s_ rounds) [] [] [] [] fun x1 =>
  .go <|
  .go <|
  .brc (!x1.2)
  (chs 0 (.wk (T.one (V.arr 1 []))) <|
  .go <|
  .ret [] [] ([], false))
  (call 2 (ok_impl_copied x1.1.2.1) [] [] [] [] fun x2 =>
  .go <|
  .ret [] [] (x2, true))
noncomputable def m_impl_PerceptronTrace (s_ : ((List (List Int)) × (List Int))) (rounds : Int) : Option ((List Int) × Bool) := den (s_impl_PerceptronTrace s_ rounds)
theorem ok_impl_PerceptronTrace (s_ : ((List (List Int)) × (List Int))) (rounds : Int) : ∀ r, m_impl_PerceptronTrace s_ rounds = some r → CallOK Try.prog n_impl_PerceptronTrace [T.agg (c_P2_LLI_LI s_), T.one (V.int .i64 rounds)] [] (T.tup [T.one (V.arr 1 (List.map c_I r.1)), T.one (V.bool r.2)]) [] :=
  fun r h => fnOK mixed (G := fun r => (T.tup [T.one (V.arr 1 (List.map c_I r.1)), T.one (V.bool r.2)], [])) (by kernel_rfl) r h

noncomputable def s_spec_PerceptronTrace (s_ : ((List (List Int)) × (List Int))) (rounds : Int) : Sc Try.prog ((List Int) × Bool) :=
  chs 1 (.wk (T.one (V.arr 1 []))) <|
  .go <|
  call 2 (ok_spec_l3Made s_ rounds) [] [] [] [] fun x1 =>
  .go <|
  .go <|
  .brc (!x1.2)
  (.go <|
  .ret [16] [] ([], false))
  (.go <|
  .ret [] [] (x1.1.2.1, true))
noncomputable def m_spec_PerceptronTrace (s_ : ((List (List Int)) × (List Int))) (rounds : Int) : Option ((List Int) × Bool) := den (s_spec_PerceptronTrace s_ rounds)
theorem ok_spec_PerceptronTrace (s_ : ((List (List Int)) × (List Int))) (rounds : Int) : ∀ r, m_spec_PerceptronTrace s_ rounds = some r → CallOK Try.prog n_spec_PerceptronTrace [T.agg (c_P2_LLI_LI s_), T.one (V.int .i64 rounds)] [] (T.tup [T.one (V.arr 1 (List.map c_I r.1)), T.one (V.bool r.2)]) [] :=
  fun r h => fnOK mixed (G := fun r => (T.tup [T.one (V.arr 1 (List.map c_I r.1)), T.one (V.bool r.2)], [])) (by kernel_rfl) r h

def impl_DualCounts_l0_S (x1 : ((List ((List Int) × Int)) × (List Int) × (List Int)) × Bool) (o22 : (List Int)) (t26 : Int) : St := ⟨mkSl 38 [(4, T.one (V.arr 1 (List.map c_I []))), (5, T.one (V.bool false)), (8, T.one (V.ref 22 1)), (24, T.one (V.arr 1 (List.map c_I x1.1.2.1))), (25, T.one (V.int .i64 (ln c_I x1.1.2.1))), (26, T.one (V.int .i64 t26))], [(22, Ob.mk 1 (some (Con.mk 3 1 true (List.map c_I o22))))]⟩
def impl_DualCounts_l0_X0 (x1 : ((List ((List Int) × Int)) × (List Int) × (List Int)) × Bool) (o22 : (List Int)) : St := ⟨mkSl 38 [(4, T.one (V.arr 1 (List.map c_I []))), (5, T.one (V.bool false)), (8, T.one (V.ref 22 1))], [(22, Ob.mk 1 (some (Con.mk 3 1 true (List.map c_I o22))))]⟩
def impl_DualCounts_l0_G (x1 : ((List ((List Int) × Int)) × (List Int) × (List Int)) × Bool) : ((List Int) × Int) ⊕ (List Int) → AExit × St
  | .inl s => (.normal, impl_DualCounts_l0_S x1 s.1 s.2)
  | .inr d => ((.exit 0), impl_DualCounts_l0_X0 x1 d)
noncomputable def impl_DualCounts_l0 (x1 : ((List ((List Int) × Int)) × (List Int) × (List Int)) × Bool) (o22 : (List Int)) (t26 : Int) : Sc Try.prog (((List Int) × Int) ⊕ (List Int)) :=
  .go <|
  .brc (decide ((t26 : Int) < (ln c_I x1.1.2.1)))
  (get 0 c_I x1.1.2.1 t26 fun x2 =>
  .go <|
  idx c_I o22 x2 <|
  ld 3 c_I o22 (Int.toNat x2) fun x3 =>
  idx c_I o22 x2 <|
  upd 6 c_I o22 (Int.toNat x2) (fun _ => (w64 (x3 + 1))) fun x4 =>
  .go <|
  .go <|
  .ret [4, 5, 8, 24, 25, 26] [22] (.inl ((List.set o22 (Int.toNat x2) (w64 (x3 + 1))), (w64 (t26 + 1)))))
  (.ret [4, 5, 8] [22] (.inr o22))
noncomputable def m_impl_DualCounts_l0 (x1 : ((List ((List Int) × Int)) × (List Int) × (List Int)) × Bool) (s : ((List Int) × Int)) : Option (List Int) := lrun (fun s => den (impl_DualCounts_l0 x1 s.1 s.2)) s
theorem ok_impl_DualCounts_l0 (x1 : ((List ((List Int) × Int)) × (List Int) × (List Int)) × Bool) (s : ((List Int) × Int)) (d : (List Int)) (h : m_impl_DualCounts_l0 x1 s = some d) : ExecOK Try.prog (.loop (bodyOf Try.prog n_impl_DualCounts 0)) (impl_DualCounts_l0_S x1 s.1 s.2) (impl_DualCounts_l0_G x1 (.inr d)).1 (impl_DualCounts_l0_G x1 (.inr d)).2 :=
  loopOK mixed (G := impl_DualCounts_l0_G x1) (sc := fun s => impl_DualCounts_l0 x1 s.1 s.2) (fun s => by kernel_rfl) (fun _ => rfl) (fun d => rfl) s d h
noncomputable def s_impl_DualCounts (s_ : ((List (List Int)) × (List Int))) (rounds : Int) : Sc Try.prog ((List Int) × Bool) :=
  chs 1 (.wk (T.one (V.arr 1 []))) <|
  .go <|
  call 2 (ok_impl_runOf s_ rounds) [] [] [] [] fun x1 =>
  .go <|
  .go <|
  .brc (!x1.2)
  (chs 0 (.wk (T.one (V.arr 1 []))) <|
  .go <|
  .ret [] [] ([], false))
  (mk 3 c_I 8 (ln c_LI s_.1) 0 <|
  .go <|
  .go <|
  lp (ok_impl_DualCounts_l0 x1 ((List.replicate (Int.toNat (ln c_LI s_.1)) 0), 0)) [4, 5, 8, 24, 25, 26] [22] fun x5 =>
  .go <|
  .ret [22] [] (x5, true))
noncomputable def m_impl_DualCounts (s_ : ((List (List Int)) × (List Int))) (rounds : Int) : Option ((List Int) × Bool) := den (s_impl_DualCounts s_ rounds)
theorem ok_impl_DualCounts (s_ : ((List (List Int)) × (List Int))) (rounds : Int) : ∀ r, m_impl_DualCounts s_ rounds = some r → CallOK Try.prog n_impl_DualCounts [T.agg (c_P2_LLI_LI s_), T.one (V.int .i64 rounds)] [] (T.tup [T.one (V.arr 1 (List.map c_I r.1)), T.one (V.bool r.2)]) [] :=
  fun r h => fnOK mixed (G := fun r => (T.tup [T.one (V.arr 1 (List.map c_I r.1)), T.one (V.bool r.2)], [])) (by kernel_rfl) r h

def spec_DualCounts_l0_S (x1 : ((List ((List Int) × Int)) × (List Int) × (List Int)) × Bool) (o22 : (List Int)) (i : Int) : St := ⟨mkSl 41 [(4, T.one (V.arr 1 (List.map c_I []))), (5, T.one (V.bool false)), (6, T.one (V.ptr 6 1 0 0)), (8, T.one (V.ref 22 1)), (9, T.one (V.int .i64 i))], [(6, Ob.mk 1 (some (Con.mk 77 3 false [[V.arr 2 (List.map c_P2_LI_I x1.1.1), V.arr 1 (List.map c_I x1.1.2.1), V.arr 1 (List.map c_I x1.1.2.2)]]))), (22, Ob.mk 1 (some (Con.mk 3 1 true (List.map c_I o22))))]⟩
def spec_DualCounts_l0_X0 (x1 : ((List ((List Int) × Int)) × (List Int) × (List Int)) × Bool) (o22 : (List Int)) : St := ⟨mkSl 41 [(4, T.one (V.arr 1 (List.map c_I []))), (5, T.one (V.bool false)), (8, T.one (V.ref 22 1))], [(22, Ob.mk 1 (some (Con.mk 3 1 true (List.map c_I o22))))]⟩
def spec_DualCounts_l0_G (x1 : ((List ((List Int) × Int)) × (List Int) × (List Int)) × Bool) : ((List Int) × Int) ⊕ (List Int) → AExit × St
  | .inl s => (.normal, spec_DualCounts_l0_S x1 s.1 s.2)
  | .inr d => ((.exit 0), spec_DualCounts_l0_X0 x1 d)
noncomputable def spec_DualCounts_l0 (x1 : ((List ((List Int) × Int)) × (List Int) × (List Int)) × Bool) (o22 : (List Int)) (i : Int) : Sc Try.prog (((List Int) × Int) ⊕ (List Int)) :=
  .go <|
  .brc (decide ((i : Int) < (ln c_I x1.1.2.1)))
  (get 4 c_I x1.1.2.1 i fun x2 =>
  idx c_I o22 x2 <|
  ld 7 c_I o22 (Int.toNat x2) fun x3 =>
  idx c_I o22 x2 <|
  upd 10 c_I o22 (Int.toNat x2) (fun _ => (w64 (x3 + 1))) fun x4 =>
  .go <|
  .go <|
  .ret [4, 5, 6, 8, 9] [6, 22] (.inl ((List.set o22 (Int.toNat x2) (w64 (x3 + 1))), (w64 (i + 1)))))
  (.ret [4, 5, 8] [22] (.inr o22))
noncomputable def m_spec_DualCounts_l0 (x1 : ((List ((List Int) × Int)) × (List Int) × (List Int)) × Bool) (s : ((List Int) × Int)) : Option (List Int) := lrun (fun s => den (spec_DualCounts_l0 x1 s.1 s.2)) s
theorem ok_spec_DualCounts_l0 (x1 : ((List ((List Int) × Int)) × (List Int) × (List Int)) × Bool) (s : ((List Int) × Int)) (d : (List Int)) (h : m_spec_DualCounts_l0 x1 s = some d) : ExecOK Try.prog (.loop (bodyOf Try.prog n_spec_DualCounts 0)) (spec_DualCounts_l0_S x1 s.1 s.2) (spec_DualCounts_l0_G x1 (.inr d)).1 (spec_DualCounts_l0_G x1 (.inr d)).2 :=
  loopOK mixed (G := spec_DualCounts_l0_G x1) (sc := fun s => spec_DualCounts_l0 x1 s.1 s.2) (fun s => by kernel_rfl) (fun _ => rfl) (fun d => rfl) s d h
noncomputable def s_spec_DualCounts (s_ : ((List (List Int)) × (List Int))) (rounds : Int) : Sc Try.prog ((List Int) × Bool) :=
  chs 1 (.wk (T.one (V.arr 1 []))) <|
  .go <|
  call 2 (ok_spec_l3Made s_ rounds) [] [] [] [] fun x1 =>
  .go <|
  .go <|
  .brc (!x1.2)
  (.go <|
  .ret [18] [] ([], false))
  (mk 3 c_I 8 (ln c_LI s_.1) 0 <|
  .go <|
  .go <|
  lp (ok_spec_DualCounts_l0 x1 ((List.replicate (Int.toNat (ln c_LI s_.1)) 0), 0)) [4, 5, 6, 8, 9] [6, 22] fun x5 =>
  .go <|
  .ret [22] [] (x5, true))
noncomputable def m_spec_DualCounts (s_ : ((List (List Int)) × (List Int))) (rounds : Int) : Option ((List Int) × Bool) := den (s_spec_DualCounts s_ rounds)
theorem ok_spec_DualCounts (s_ : ((List (List Int)) × (List Int))) (rounds : Int) : ∀ r, m_spec_DualCounts s_ rounds = some r → CallOK Try.prog n_spec_DualCounts [T.agg (c_P2_LLI_LI s_), T.one (V.int .i64 rounds)] [] (T.tup [T.one (V.arr 1 (List.map c_I r.1)), T.one (V.bool r.2)]) [] :=
  fun r h => fnOK mixed (G := fun r => (T.tup [T.one (V.arr 1 (List.map c_I r.1)), T.one (V.bool r.2)], [])) (by kernel_rfl) r h

end Go.Abs
