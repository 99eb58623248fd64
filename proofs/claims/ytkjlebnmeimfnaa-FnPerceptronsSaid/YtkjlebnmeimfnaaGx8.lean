import Derived.Test.YtkjlebnmeimfnaaGxN
import Derived.Test.YtkjlebnmeimfnaaGx0
import Derived.Test.YtkjlebnmeimfnaaGx2
import Derived.Test.YtkjlebnmeimfnaaGx3
import Derived.Test.YtkjlebnmeimfnaaGx4
import Derived.Test.YtkjlebnmeimfnaaGx5
import Derived.Test.YtkjlebnmeimfnaaGx6
import Derived.Test.YtkjlebnmeimfnaaGx7
namespace Go.Abs
open Go.Proofs

def laws_FnPerceptrons_j0_S (x2 : ((List (List Int)) × (List Int)) × Int) (x3 : ((List Int) × Int) × (List Int) × Bool) (x5 : (List Int) × Bool) (x25 : (List Int) × Bool) (x26 : (List Int) × Bool) (x27 : Bool × Bool) : St := ⟨mkSl 339 [(2, T.one (V.bool false)), (3, T.one (V.ptr 3 1 0 0)), (5, T.one (V.ptr 5 1 0 0)), (6, T.one (V.arr 1 (List.map c_I x3.2.1))), (11, T.one (V.arr 1 (List.map c_I x5.1))), (31, T.one (V.arr 1 (List.map c_I x25.1))), (32, T.one (V.bool x25.2)), (33, T.one (V.arr 1 (List.map c_I x26.1))), (34, T.one (V.bool x26.2)), (35, T.one (V.bool x27.1)), (36, T.one (V.bool x27.2))], [(3, Ob.mk 1 (some (Con.mk 31 2 false [[V.arr 1 (List.map c_LI x2.1.1), V.arr 1 (List.map c_I x2.1.2)]]))), (5, Ob.mk 1 (some (Con.mk 28 2 false [[V.arr 1 (List.map c_I x3.1.1), V.int .i64 x3.1.2]])))]⟩
def laws_FnPerceptrons_j0_X0 (x2 : ((List (List Int)) × (List Int)) × Int) (x3 : ((List Int) × Int) × (List Int) × Bool) (x5 : (List Int) × Bool) (x25 : (List Int) × Bool) (x26 : (List Int) × Bool) (x27 : Bool × Bool) : St := ⟨mkSl 339 [(2, T.one (V.bool false))], []⟩
def laws_FnPerceptrons_j0_X1 (x2 : ((List (List Int)) × (List Int)) × Int) (x3 : ((List Int) × Int) × (List Int) × Bool) (x5 : (List Int) × Bool) (x25 : (List Int) × Bool) (x26 : (List Int) × Bool) (x27 : Bool × Bool) : St := ⟨mkSl 339 [(2, T.one (V.bool false)), (3, T.one (V.ptr 3 1 0 0)), (5, T.one (V.ptr 5 1 0 0)), (6, T.one (V.arr 1 (List.map c_I x3.2.1))), (11, T.one (V.arr 1 (List.map c_I x5.1)))], [(3, Ob.mk 1 (some (Con.mk 31 2 false [[V.arr 1 (List.map c_LI x2.1.1), V.arr 1 (List.map c_I x2.1.2)]]))), (5, Ob.mk 1 (some (Con.mk 28 2 false [[V.arr 1 (List.map c_I x3.1.1), V.int .i64 x3.1.2]])))]⟩
def laws_FnPerceptrons_j0_G (x2 : ((List (List Int)) × (List Int)) × Int) (x3 : ((List Int) × Int) × (List Int) × Bool) (x5 : (List Int) × Bool) (x25 : (List Int) × Bool) (x26 : (List Int) × Bool) (x27 : Bool × Bool) : (Unit ⊕ Unit) → AExit × St
  | .inl d => (.ret, laws_FnPerceptrons_j0_X0 x2 x3 x5 x25 x26 x27)
  | .inr d => (.normal, laws_FnPerceptrons_j0_X1 x2 x3 x5 x25 x26 x27)
noncomputable def laws_FnPerceptrons_j0 (x2 : ((List (List Int)) × (List Int)) × Int) (x3 : ((List Int) × Int) × (List Int) × Bool) (x5 : (List Int) × Bool) (x25 : (List Int) × Bool) (x26 : (List Int) × Bool) (x27 : Bool × Bool) : Sc Try.prog (Unit ⊕ Unit) :=
  .br 2 (!x25.2)
  (.go <|
  .brk true <|
  .go <|
  .ret [2] [] (.inl ()))
  (.br 6 (!x26.2)
  (.go <|
  .brk true <|
  .go <|
  .ret [2] [] (.inl ()))
  (.br 10 (!x27.2)
  (.go <|
  .brk true <|
  .go <|
  .ret [2] [] (.inl ()))
  (.br 17 (decide (((ln c_I x26.1) : Int) > (ln c_I x25.1)))
  (.go <|
  .brk true <|
  .go <|
  .ret [2] [] (.inl ()))
  (get 22 c_I x3.2.1 (w64 ((ln c_I x3.2.1) - 1)) fun x28 =>
  .br 25 ((x28 : Int) == 0)
  (.go <|
  .brc (!x27.1)
  (.go <|
  .ret [2] [] (.inl ()))
  (.ret [2, 3, 5, 6, 11] [3, 5] (.inr ())))
  (.go <|
  .brk false <|
  .ret [2, 3, 5, 6, 11] [3, 5] (.inr ()))))))
noncomputable def m_laws_FnPerceptrons_j0 (x2 : ((List (List Int)) × (List Int)) × Int) (x3 : ((List Int) × Int) × (List Int) × Bool) (x5 : (List Int) × Bool) (x25 : (List Int) × Bool) (x26 : (List Int) × Bool) (x27 : Bool × Bool) : Option (Unit ⊕ Unit) := den (laws_FnPerceptrons_j0 x2 x3 x5 x25 x26 x27)
theorem ok_laws_FnPerceptrons_j0 (x2 : ((List (List Int)) × (List Int)) × Int) (x3 : ((List Int) × Int) × (List Int) × Bool) (x5 : (List Int) × Bool) (x25 : (List Int) × Bool) (x26 : (List Int) × Bool) (x27 : Bool × Bool) (d : (Unit ⊕ Unit)) (h : m_laws_FnPerceptrons_j0 x2 x3 x5 x25 x26 x27 = some d) : ExecOK Try.prog (codeOf Try.prog n_laws_FnPerceptrons [1, 1, 1, 1, 1, 1, 1, 1, 1, 1, 1, 1, 1, 1, 1, 1, 1, 1, 1, 1, 1, 0]) (laws_FnPerceptrons_j0_S x2 x3 x5 x25 x26 x27) (laws_FnPerceptrons_j0_G x2 x3 x5 x25 x26 x27 d).1 (laws_FnPerceptrons_j0_G x2 x3 x5 x25 x26 x27 d).2 :=
  codeOK mixed (G := laws_FnPerceptrons_j0_G x2 x3 x5 x25 x26 x27) (by kernel_rfl) d h
def laws_FnPerceptrons_j1_S (x2 : ((List (List Int)) × (List Int)) × Int) (x3 : ((List Int) × Int) × (List Int) × Bool) (x5 : (List Int) × Bool) (round : Int) (now2 : (List Int)) (now12 : Int) (at_2 : Int) (i : Int) (x34 : ((List Int) × Int) × Bool × Bool) : St := ⟨mkSl 339 [(2, T.one (V.bool false)), (3, T.one (V.ptr 3 1 0 0)), (5, T.one (V.ptr 5 1 0 0)), (6, T.one (V.arr 1 (List.map c_I x3.2.1))), (11, T.one (V.arr 1 (List.map c_I x5.1))), (37, T.one (V.ptr 37 1 0 0)), (38, T.one (V.int .i64 at_2)), (39, T.one (V.int .i64 round)), (40, T.one (V.int .i64 i)), (41, T.one (V.ptr 41 1 0 0)), (42, T.one (V.bool x34.2.1)), (43, T.one (V.bool x34.2.2))], [(3, Ob.mk 1 (some (Con.mk 31 2 false [[V.arr 1 (List.map c_LI x2.1.1), V.arr 1 (List.map c_I x2.1.2)]]))), (5, Ob.mk 1 (some (Con.mk 28 2 false [[V.arr 1 (List.map c_I x3.1.1), V.int .i64 x3.1.2]]))), (37, Ob.mk 1 (some (Con.mk 28 2 false [[V.arr 1 (List.map c_I now2), V.int .i64 now12]]))), (41, Ob.mk 1 (some (Con.mk 28 2 false [[V.arr 1 (List.map c_I x34.1.1), V.int .i64 x34.1.2]])))]⟩
def laws_FnPerceptrons_j1_X0 (x2 : ((List (List Int)) × (List Int)) × Int) (x3 : ((List Int) × Int) × (List Int) × Bool) (x5 : (List Int) × Bool) (round : Int) (now2 : (List Int)) (now12 : Int) (at_2 : Int) (i : Int) (x34 : ((List Int) × Int) × Bool × Bool) : St := ⟨mkSl 339 [(2, T.one (V.bool false))], []⟩
def laws_FnPerceptrons_j1_X1 (x2 : ((List (List Int)) × (List Int)) × Int) (x3 : ((List Int) × Int) × (List Int) × Bool) (x5 : (List Int) × Bool) (round : Int) (now2 : (List Int)) (now12 : Int) (at_2 : Int) (i : Int) (x34 : ((List Int) × Int) × Bool × Bool) : St := ⟨mkSl 339 [(2, T.one (V.bool false)), (3, T.one (V.ptr 3 1 0 0)), (5, T.one (V.ptr 5 1 0 0)), (6, T.one (V.arr 1 (List.map c_I x3.2.1))), (11, T.one (V.arr 1 (List.map c_I x5.1))), (37, T.one (V.ptr 37 1 0 0)), (38, T.one (V.int .i64 at_2)), (39, T.one (V.int .i64 round)), (40, T.one (V.int .i64 i)), (41, T.one (V.ptr 41 1 0 0)), (42, T.one (V.bool x34.2.1))], [(3, Ob.mk 1 (some (Con.mk 31 2 false [[V.arr 1 (List.map c_LI x2.1.1), V.arr 1 (List.map c_I x2.1.2)]]))), (5, Ob.mk 1 (some (Con.mk 28 2 false [[V.arr 1 (List.map c_I x3.1.1), V.int .i64 x3.1.2]]))), (37, Ob.mk 1 (some (Con.mk 28 2 false [[V.arr 1 (List.map c_I now2), V.int .i64 now12]]))), (41, Ob.mk 1 (some (Con.mk 28 2 false [[V.arr 1 (List.map c_I x34.1.1), V.int .i64 x34.1.2]])))]⟩
def laws_FnPerceptrons_j1_G (x2 : ((List (List Int)) × (List Int)) × Int) (x3 : ((List Int) × Int) × (List Int) × Bool) (x5 : (List Int) × Bool) (round : Int) (now2 : (List Int)) (now12 : Int) (at_2 : Int) (i : Int) (x34 : ((List Int) × Int) × Bool × Bool) : (Unit ⊕ Unit) → AExit × St
  | .inl d => (.ret, laws_FnPerceptrons_j1_X0 x2 x3 x5 round now2 now12 at_2 i x34)
  | .inr d => (.normal, laws_FnPerceptrons_j1_X1 x2 x3 x5 round now2 now12 at_2 i x34)
noncomputable def laws_FnPerceptrons_j1 (x2 : ((List (List Int)) × (List Int)) × Int) (x3 : ((List Int) × Int) × (List Int) × Bool) (x5 : (List Int) × Bool) (round : Int) (now2 : (List Int)) (now12 : Int) (at_2 : Int) (i : Int) (x34 : ((List Int) × Int) × Bool × Bool) : Sc Try.prog (Unit ⊕ Unit) :=
  .br 2 (!x34.2.2)
  (.go <|
  .brk true <|
  .go <|
  .ret [2] [] (.inl ()))
  (.br 4 x34.2.1
  (.br 9 (decide ((at_2 : Int) ≥ (ln c_I x5.1)))
  (.go <|
  .brk true <|
  .go <|
  .ret [2] [] (.inl ()))
  (get 12 c_I x5.1 at_2 fun x35 =>
  .go <|
  .brc ((x35 : Int) != i)
  (.go <|
  .ret [2] [] (.inl ()))
  (.ret [2, 3, 5, 6, 11, 37, 38, 39, 40, 41, 42] [3, 5, 37, 41] (.inr ()))))
  (.go <|
  .brk false <|
  .ret [2, 3, 5, 6, 11, 37, 38, 39, 40, 41, 42] [3, 5, 37, 41] (.inr ())))
noncomputable def m_laws_FnPerceptrons_j1 (x2 : ((List (List Int)) × (List Int)) × Int) (x3 : ((List Int) × Int) × (List Int) × Bool) (x5 : (List Int) × Bool) (round : Int) (now2 : (List Int)) (now12 : Int) (at_2 : Int) (i : Int) (x34 : ((List Int) × Int) × Bool × Bool) : Option (Unit ⊕ Unit) := den (laws_FnPerceptrons_j1 x2 x3 x5 round now2 now12 at_2 i x34)
theorem ok_laws_FnPerceptrons_j1 (x2 : ((List (List Int)) × (List Int)) × Int) (x3 : ((List Int) × Int) × (List Int) × Bool) (x5 : (List Int) × Bool) (round : Int) (now2 : (List Int)) (now12 : Int) (at_2 : Int) (i : Int) (x34 : ((List Int) × Int) × Bool × Bool) (d : (Unit ⊕ Unit)) (h : m_laws_FnPerceptrons_j1 x2 x3 x5 round now2 now12 at_2 i x34 = some d) : ExecOK Try.prog (codeOf Try.prog n_laws_FnPerceptrons [1, 1, 1, 1, 1, 1, 1, 1, 1, 1, 1, 1, 1, 1, 1, 1, 1, 1, 1, 1, 1, 1, 1, 1, 0, 1, 0, 0, 1, 0, 0, 1, 0, 0, 1, 0, 0, 1, 0]) (laws_FnPerceptrons_j1_S x2 x3 x5 round now2 now12 at_2 i x34) (laws_FnPerceptrons_j1_G x2 x3 x5 round now2 now12 at_2 i x34 d).1 (laws_FnPerceptrons_j1_G x2 x3 x5 round now2 now12 at_2 i x34 d).2 :=
  codeOK mixed (G := laws_FnPerceptrons_j1_G x2 x3 x5 round now2 now12 at_2 i x34) (by kernel_rfl) d h
def laws_FnPerceptrons_l1_S (x2 : ((List (List Int)) × (List Int)) × Int) (x3 : ((List Int) × Int) × (List Int) × Bool) (x5 : (List Int) × Bool) (at_ : Int) (round : Int) (now2 : (List Int)) (now12 : Int) (at_2 : Int) (i : Int) : St := ⟨mkSl 339 [(2, T.one (V.bool false)), (3, T.one (V.ptr 3 1 0 0)), (5, T.one (V.ptr 5 1 0 0)), (6, T.one (V.arr 1 (List.map c_I x3.2.1))), (11, T.one (V.arr 1 (List.map c_I x5.1))), (37, T.one (V.ptr 37 1 0 0)), (38, T.one (V.int .i64 at_2)), (39, T.one (V.int .i64 round)), (40, T.one (V.int .i64 i))], [(3, Ob.mk 1 (some (Con.mk 31 2 false [[V.arr 1 (List.map c_LI x2.1.1), V.arr 1 (List.map c_I x2.1.2)]]))), (5, Ob.mk 1 (some (Con.mk 28 2 false [[V.arr 1 (List.map c_I x3.1.1), V.int .i64 x3.1.2]]))), (37, Ob.mk 1 (some (Con.mk 28 2 false [[V.arr 1 (List.map c_I now2), V.int .i64 now12]])))]⟩
def laws_FnPerceptrons_l1_X0 (x2 : ((List (List Int)) × (List Int)) × Int) (x3 : ((List Int) × Int) × (List Int) × Bool) (x5 : (List Int) × Bool) (at_ : Int) (round : Int) : St := ⟨mkSl 339 [(2, T.one (V.bool false))], []⟩
def laws_FnPerceptrons_l1_X1 (x2 : ((List (List Int)) × (List Int)) × Int) (x3 : ((List Int) × Int) × (List Int) × Bool) (x5 : (List Int) × Bool) (at_ : Int) (round : Int) (now2 : (List Int)) (now12 : Int) (at_2 : Int) : St := ⟨mkSl 339 [(2, T.one (V.bool false)), (3, T.one (V.ptr 3 1 0 0)), (5, T.one (V.ptr 5 1 0 0)), (6, T.one (V.arr 1 (List.map c_I x3.2.1))), (11, T.one (V.arr 1 (List.map c_I x5.1))), (37, T.one (V.ptr 37 1 0 0)), (38, T.one (V.int .i64 at_2)), (39, T.one (V.int .i64 round))], [(3, Ob.mk 1 (some (Con.mk 31 2 false [[V.arr 1 (List.map c_LI x2.1.1), V.arr 1 (List.map c_I x2.1.2)]]))), (5, Ob.mk 1 (some (Con.mk 28 2 false [[V.arr 1 (List.map c_I x3.1.1), V.int .i64 x3.1.2]]))), (37, Ob.mk 1 (some (Con.mk 28 2 false [[V.arr 1 (List.map c_I now2), V.int .i64 now12]])))]⟩
def laws_FnPerceptrons_l1_G (x2 : ((List (List Int)) × (List Int)) × Int) (x3 : ((List Int) × Int) × (List Int) × Bool) (x5 : (List Int) × Bool) (at_ : Int) (round : Int) : ((List Int) × Int × Int × Int) ⊕ (Unit ⊕ ((List Int) × Int × Int)) → AExit × St
  | .inl s => (.normal, laws_FnPerceptrons_l1_S x2 x3 x5 at_ round s.1 s.2.1 s.2.2.1 s.2.2.2)
  | .inr (.inl d) => (.ret, laws_FnPerceptrons_l1_X0 x2 x3 x5 at_ round)
  | .inr (.inr d) => ((.exit 2), laws_FnPerceptrons_l1_X1 x2 x3 x5 at_ round d.1 d.2.1 d.2.2)
noncomputable def laws_FnPerceptrons_l1 (x2 : ((List (List Int)) × (List Int)) × Int) (x3 : ((List Int) × Int) × (List Int) × Bool) (x5 : (List Int) × Bool) (at_ : Int) (round : Int) (now2 : (List Int)) (now12 : Int) (at_2 : Int) (i : Int) : Sc Try.prog (((List Int) × Int × Int × Int) ⊕ (Unit ⊕ ((List Int) × Int × Int))) :=
  .go <|
  .brc (decide ((i : Int) < (ln c_LI x2.1.1)))
  (get 4 c_LI x2.1.1 i fun x32 =>
  get 9 c_I x2.1.2 i fun x33 =>
  call 11 (ok_impl_StepPerceptron (now2, now12) x32 x33) [] [] [] [] fun x34 =>
  .go <|
  .at_ 1 <|
  lp2 (ok_laws_FnPerceptrons_j1 x2 x3 x5 round now2 now12 at_2 i x34) [2, 3, 5, 6, 11, 37, 38, 39, 40, 41, 42, 43] [3, 5, 37, 41]
  (fun x36 =>
  .ret [2] [] (.inr (.inl ())))
  (fun x37 =>
  .go <|
  .brc x34.2.1
  (.go <|
  .go <|
  .go <|
  .ret [2, 3, 5, 6, 11, 37, 38, 39, 40] [3, 5, 37] (.inl (x34.1.1, x34.1.2, (w64 (at_2 + 1)), (w64 (i + 1)))))
  (.go <|
  .go <|
  .ret [2, 3, 5, 6, 11, 37, 38, 39, 40] [3, 5, 37] (.inl (x34.1.1, x34.1.2, at_2, (w64 (i + 1)))))))
  (.ret [2, 3, 5, 6, 11, 37, 38, 39] [3, 5, 37] (.inr (.inr (now2, now12, at_2))))
noncomputable def m_laws_FnPerceptrons_l1 (x2 : ((List (List Int)) × (List Int)) × Int) (x3 : ((List Int) × Int) × (List Int) × Bool) (x5 : (List Int) × Bool) (at_ : Int) (round : Int) (s : ((List Int) × Int × Int × Int)) : Option (Unit ⊕ ((List Int) × Int × Int)) := lrun (fun s => den (laws_FnPerceptrons_l1 x2 x3 x5 at_ round s.1 s.2.1 s.2.2.1 s.2.2.2)) s
theorem ok_laws_FnPerceptrons_l1 (x2 : ((List (List Int)) × (List Int)) × Int) (x3 : ((List Int) × Int) × (List Int) × Bool) (x5 : (List Int) × Bool) (at_ : Int) (round : Int) (s : ((List Int) × Int × Int × Int)) (d : (Unit ⊕ ((List Int) × Int × Int))) (h : m_laws_FnPerceptrons_l1 x2 x3 x5 at_ round s = some d) : ExecOK Try.prog (.loop (bodyOf Try.prog n_laws_FnPerceptrons 1)) (laws_FnPerceptrons_l1_S x2 x3 x5 at_ round s.1 s.2.1 s.2.2.1 s.2.2.2) (laws_FnPerceptrons_l1_G x2 x3 x5 at_ round (.inr d)).1 (laws_FnPerceptrons_l1_G x2 x3 x5 at_ round (.inr d)).2 :=
  loopOK mixed (G := laws_FnPerceptrons_l1_G x2 x3 x5 at_ round) (sc := fun s => laws_FnPerceptrons_l1 x2 x3 x5 at_ round s.1 s.2.1 s.2.2.1 s.2.2.2) (fun s => by kernel_rfl) (fun _ => rfl) (fun d => by rcases d with d | d <;> rfl) s d h
def laws_FnPerceptrons_l0_S (x2 : ((List (List Int)) × (List Int)) × Int) (x3 : ((List Int) × Int) × (List Int) × Bool) (x5 : (List Int) × Bool) (now : (List Int)) (now1 : Int) (at_ : Int) (round : Int) : St := ⟨mkSl 339 [(2, T.one (V.bool false)), (3, T.one (V.ptr 3 1 0 0)), (5, T.one (V.ptr 5 1 0 0)), (6, T.one (V.arr 1 (List.map c_I x3.2.1))), (11, T.one (V.arr 1 (List.map c_I x5.1))), (37, T.one (V.ptr 37 1 0 0)), (38, T.one (V.int .i64 at_)), (39, T.one (V.int .i64 round))], [(3, Ob.mk 1 (some (Con.mk 31 2 false [[V.arr 1 (List.map c_LI x2.1.1), V.arr 1 (List.map c_I x2.1.2)]]))), (5, Ob.mk 1 (some (Con.mk 28 2 false [[V.arr 1 (List.map c_I x3.1.1), V.int .i64 x3.1.2]]))), (37, Ob.mk 1 (some (Con.mk 28 2 false [[V.arr 1 (List.map c_I now), V.int .i64 now1]])))]⟩
def laws_FnPerceptrons_l0_X0 (x2 : ((List (List Int)) × (List Int)) × Int) (x3 : ((List Int) × Int) × (List Int) × Bool) (x5 : (List Int) × Bool) : St := ⟨mkSl 339 [(2, T.one (V.bool false))], []⟩
def laws_FnPerceptrons_l0_X1 (x2 : ((List (List Int)) × (List Int)) × Int) (x3 : ((List Int) × Int) × (List Int) × Bool) (x5 : (List Int) × Bool) (now : (List Int)) (now1 : Int) (at_ : Int) : St := ⟨mkSl 339 [(2, T.one (V.bool false)), (5, T.one (V.ptr 5 1 0 0)), (11, T.one (V.arr 1 (List.map c_I x5.1))), (37, T.one (V.ptr 37 1 0 0)), (38, T.one (V.int .i64 at_))], [(5, Ob.mk 1 (some (Con.mk 28 2 false [[V.arr 1 (List.map c_I x3.1.1), V.int .i64 x3.1.2]]))), (37, Ob.mk 1 (some (Con.mk 28 2 false [[V.arr 1 (List.map c_I now), V.int .i64 now1]])))]⟩
def laws_FnPerceptrons_l0_G (x2 : ((List (List Int)) × (List Int)) × Int) (x3 : ((List Int) × Int) × (List Int) × Bool) (x5 : (List Int) × Bool) : ((List Int) × Int × Int × Int) ⊕ (Unit ⊕ ((List Int) × Int × Int)) → AExit × St
  | .inl s => (.normal, laws_FnPerceptrons_l0_S x2 x3 x5 s.1 s.2.1 s.2.2.1 s.2.2.2)
  | .inr (.inl d) => (.ret, laws_FnPerceptrons_l0_X0 x2 x3 x5)
  | .inr (.inr d) => ((.exit 0), laws_FnPerceptrons_l0_X1 x2 x3 x5 d.1 d.2.1 d.2.2)
noncomputable def laws_FnPerceptrons_l0 (x2 : ((List (List Int)) × (List Int)) × Int) (x3 : ((List Int) × Int) × (List Int) × Bool) (x5 : (List Int) × Bool) (now : (List Int)) (now1 : Int) (at_ : Int) (round : Int) : Sc Try.prog (((List Int) × Int × Int × Int) ⊕ (Unit ⊕ ((List Int) × Int × Int))) :=
  .go <|
  .brc (decide ((round : Int) < (ln c_I x3.2.1)))
  (.go <|
  lp2 (ok_laws_FnPerceptrons_l1 x2 x3 x5 at_ round (now, now1, at_, 0)) [2, 3, 5, 6, 11, 37, 38, 39, 40] [3, 5, 37]
  (fun x38 =>
  .ret [2] [] (.inr (.inl ())))
  (fun x39 =>
  .go <|
  .ret [2, 3, 5, 6, 11, 37, 38, 39] [3, 5, 37] (.inl (x39.1, x39.2.1, x39.2.2, (w64 (round + 1))))))
  (.ret [2, 5, 11, 37, 38] [5, 37] (.inr (.inr (now, now1, at_))))
noncomputable def m_laws_FnPerceptrons_l0 (x2 : ((List (List Int)) × (List Int)) × Int) (x3 : ((List Int) × Int) × (List Int) × Bool) (x5 : (List Int) × Bool) (s : ((List Int) × Int × Int × Int)) : Option (Unit ⊕ ((List Int) × Int × Int)) := lrun (fun s => den (laws_FnPerceptrons_l0 x2 x3 x5 s.1 s.2.1 s.2.2.1 s.2.2.2)) s
theorem ok_laws_FnPerceptrons_l0 (x2 : ((List (List Int)) × (List Int)) × Int) (x3 : ((List Int) × Int) × (List Int) × Bool) (x5 : (List Int) × Bool) (s : ((List Int) × Int × Int × Int)) (d : (Unit ⊕ ((List Int) × Int × Int))) (h : m_laws_FnPerceptrons_l0 x2 x3 x5 s = some d) : ExecOK Try.prog (.loop (bodyOf Try.prog n_laws_FnPerceptrons 0)) (laws_FnPerceptrons_l0_S x2 x3 x5 s.1 s.2.1 s.2.2.1 s.2.2.2) (laws_FnPerceptrons_l0_G x2 x3 x5 (.inr d)).1 (laws_FnPerceptrons_l0_G x2 x3 x5 (.inr d)).2 :=
  loopOK mixed (G := laws_FnPerceptrons_l0_G x2 x3 x5) (sc := fun s => laws_FnPerceptrons_l0 x2 x3 x5 s.1 s.2.1 s.2.2.1 s.2.2.2) (fun s => by kernel_rfl) (fun _ => rfl) (fun d => by rcases d with d | d <;> rfl) s d h
noncomputable def s_laws_FnPerceptrons (code : (List Int)) : Sc Try.prog (Bool) :=
  .go <|
  call 1 (ok_laws_vBig code) [] [] [] [] fun x1 =>
  .go <|
  .brc x1
  (.go <|
  .ret [] [] true)
  (call 1 (ok_spec_DrawRunPerceptron code) [] [] [] [] fun x2 =>
  .go <|
  call 2 (ok_impl_RunPerceptron x2.1 x2.2) [] [] [] [] fun x3 =>
  .go <|
  call 2 (ok_spec_RunPerceptron x2.1 x2.2) [] [] [] [] fun x4 =>
  .go <|
  call 2 (ok_impl_PerceptronTrace x2.1 x2.2) [] [] [] [] fun x5 =>
  .go <|
  call 2 (ok_spec_PerceptronTrace x2.1 x2.2) [] [] [] [] fun x6 =>
  .go <|
  call 2 (ok_impl_DualCounts x2.1 x2.2) [] [] [] [] fun x7 =>
  .go <|
  call 2 (ok_spec_DualCounts x2.1 x2.2) [] [] [] [] fun x8 =>
  .go <|
  call 2 (ok_impl_PocketPlane x2.1 x2.2) [] [] [] [] fun x9 =>
  .go <|
  call 2 (ok_spec_PocketPlane x2.1 x2.2) [] [] [] [] fun x10 =>
  .go <|
  call 1 (ok_laws_vCut code 1) [] [] [] [] fun x11 =>
  call 2 (ok_spec_DrawPlaneOfCounts x11) [] [] [] [] fun x12 =>
  .go <|
  call 2 (ok_impl_PlaneOfCounts x12.1 x12.2) [] [] [] [] fun x13 =>
  .go <|
  call 2 (ok_spec_PlaneOfCounts x12.1 x12.2) [] [] [] [] fun x14 =>
  .go <|
  .br 3 (x3.2.2 != x4.2.2)
  (.go <|
  .brk true <|
  .go <|
  .ret [] [] false)
  (call 6 (ok_laws_vPlane x3.1 x4.1) [] [] [] [] fun x15 =>
  .br 9 (!x15)
  (.go <|
  .brk true <|
  .go <|
  .ret [] [] false)
  (call 12 (ok_laws_vInts x3.2.1 x4.2.1) [] [] [] [] fun x16 =>
  .br 15 (!x16)
  (.go <|
  .brk true <|
  .go <|
  .ret [] [] false)
  (.br 20 (x5.2 != x6.2)
  (.go <|
  .brk true <|
  .go <|
  .ret [] [] false)
  (call 23 (ok_laws_vInts x5.1 x6.1) [] [] [] [] fun x17 =>
  .br 26 (!x17)
  (.go <|
  .brk true <|
  .go <|
  .ret [] [] false)
  (.br 31 (x7.2 != x8.2)
  (.go <|
  .brk true <|
  .go <|
  .ret [] [] false)
  (call 34 (ok_laws_vInts x7.1 x8.1) [] [] [] [] fun x18 =>
  .br 37 (!x18)
  (.go <|
  .brk true <|
  .go <|
  .ret [] [] false)
  (.br 42 (x9.2 != x10.2)
  (.go <|
  .brk true <|
  .go <|
  .ret [] [] false)
  (call 45 (ok_laws_vPlane x9.1 x10.1) [] [] [] [] fun x19 =>
  .br 48 (!x19)
  (.go <|
  .brk true <|
  .go <|
  .ret [] [] false)
  (.br 53 (x13.2 != x14.2)
  (.go <|
  .brk true <|
  .go <|
  .ret [] [] false)
  (call 56 (ok_laws_vPlane x13.1 x14.1) [] [] [] [] fun x20 =>
  .br 59 (!x20)
  (.go <|
  .brk true <|
  .go <|
  .ret [] [] false)
  (.br 64 (x3.2.2 != x5.2)
  (.go <|
  .brk true <|
  .go <|
  .ret [] [] false)
  (.br 69 (x3.2.2 != x7.2)
  (.go <|
  .brk true <|
  .go <|
  .ret [] [] false)
  (.go <|
  .brc (x3.2.2 != x9.2)
  (.go <|
  .ret [] [] false)
  (.go <|
  .brc (!x3.2.2)
  (.go <|
  .ret [] [] true)
  (call 2 (ok_impl_PlaneOfCounts x2.1 x7.1) [] [] [] [] fun x21 =>
  .go <|
  .br 2 (!x21.2)
  (.go <|
  .brk true <|
  .go <|
  .ret [] [] false)
  (call 5 (ok_laws_vPlane x21.1 x3.1) [] [] [] [] fun x22 =>
  .br 8 (!x22)
  (.go <|
  .brk true <|
  .go <|
  .ret [] [] false)
  (call 10 (ok_laws_vAdd x7.1) [] [] [] [] fun x23 =>
  .br 15 ((x23 : Int) != (ln c_I x5.1))
  (.go <|
  .brk true <|
  .go <|
  .ret [] [] false)
  (call 17 (ok_laws_vAdd x3.2.1) [] [] [] [] fun x24 =>
  .go <|
  .brc ((x24 : Int) != (ln c_I x5.1))
  (.go <|
  .ret [] [] false)
  (call 2 (ok_impl_MistakesOf x2.1 x3.1) [] [] [] [] fun x25 =>
  .go <|
  call 2 (ok_impl_MistakesOf x2.1 x9.1) [] [] [] [] fun x26 =>
  .go <|
  call 2 (ok_impl_FitsSample x2.1 x3.1) [] [] [] [] fun x27 =>
  .go <|
  .at_ 1 <|
  lp2 (ok_laws_FnPerceptrons_j0 x2 x3 x5 x25 x26 x27) [2, 3, 5, 6, 11, 31, 32, 33, 34, 35, 36] [3, 5]
  (fun x29 =>
  .ret [] [] false)
  (fun x30 =>
  get 2 c_LI x2.1.1 0 fun x31 =>
  chs 5 (.frz .std [276]) <|
  mk 5 c_I 8 (ln c_I x31) 0 <|
  .go <|
  .go <|
  .go <|
  lp2 (ok_laws_FnPerceptrons_l0 x2 x3 x5 ((List.replicate (Int.toNat (ln c_I x31)) 0), 0, 0, 0)) [2, 3, 5, 6, 11, 37, 38, 39] [3, 5, 37]
  (fun x40 =>
  .ret [] [] false)
  (fun x41 =>
  .br 4 ((x41.2.2 : Int) == (ln c_I x5.1))
  (call 7 (ok_laws_vPlane (x41.1, x41.2.1) x3.1) [] [] [] [] fun x42 =>
  .go <|
  .ret [] [] x42)
  (.go <|
  .ret [] [] false)))))))))))))))))))))))
noncomputable def m_laws_FnPerceptrons (code : (List Int)) : Option (Bool) := den (s_laws_FnPerceptrons code)
theorem ok_laws_FnPerceptrons (code : (List Int)) : ∀ r, m_laws_FnPerceptrons code = some r → CallOK Try.prog n_laws_FnPerceptrons [T.one (V.arr 1 (List.map c_Y code))] [] (T.one (V.bool r)) [] :=
  fun r h => fnOK mixed (G := fun r => (T.one (V.bool r), [])) (by kernel_rfl) r h

end Go.Abs
