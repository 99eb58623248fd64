import Derived.Test.YtkjlebnmeimfnaaGxN
import Derived.Test.YtkjlebnmeimfnaaGx0
namespace Go.Abs
open Go.Proofs

noncomputable def s_spec_l2Plane (p : ((List Int) × Int)) : Sc Try.prog (Bool) :=
  .go <|
  call 3 (ok_spec_l1In (ln c_I p.1) 1 4) [] [] [] [] fun x1 =>
  .br 4 x1
  (call 7 (ok_spec_l2Numbers p.1 99) [] [] [] [] fun x2 =>
  .br 9 x2
  (call 12 (ok_spec_l1In p.2 (-99) 99) [] [] [] [] fun x3 =>
  .go <|
  .ret [] [] x3)
  (.go <|
  .ret [] [] false))
  (.go <|
  .ret [] [] false)
noncomputable def m_spec_l2Plane (p : ((List Int) × Int)) : Option (Bool) := den (s_spec_l2Plane p)
theorem ok_spec_l2Plane (p : ((List Int) × Int)) : ∀ r, m_spec_l2Plane p = some r → CallOK Try.prog n_spec_l2Plane [T.agg (c_P2_LI_I p)] [] (T.one (V.bool r)) [] :=
  fun r h => fnOK mixed (G := fun r => (T.one (V.bool r), [])) (by kernel_rfl) r h

noncomputable def s_spec_l2Point (x_ : (List Int)) : Sc Try.prog (Bool) :=
  .go <|
  call 2 (ok_spec_l1In (ln c_I x_) 1 4) [] [] [] [] fun x1 =>
  .br 3 x1
  (call 5 (ok_spec_l2Numbers x_ 9) [] [] [] [] fun x2 =>
  .go <|
  .ret [] [] x2)
  (.go <|
  .ret [] [] false)
noncomputable def m_spec_l2Point (x_ : (List Int)) : Option (Bool) := den (s_spec_l2Point x_)
theorem ok_spec_l2Point (x_ : (List Int)) : ∀ r, m_spec_l2Point x_ = some r → CallOK Try.prog n_spec_l2Point [T.one (V.arr 1 (List.map c_I x_))] [] (T.one (V.bool r)) [] :=
  fun r h => fnOK mixed (G := fun r => (T.one (V.bool r), [])) (by kernel_rfl) r h

noncomputable def s_spec_l2One (p : ((List Int) × Int)) (x_ : (List Int)) : Sc Try.prog (Bool) :=
  .go <|
  call 1 (ok_spec_l2Plane p) [] [] [] [] fun x1 =>
  .br 2 x1
  (call 4 (ok_spec_l2Point x_) [] [] [] [] fun x2 =>
  .br 6 x2
  (.go <|
  .ret [] [] (((ln c_I x_) : Int) == (ln c_I p.1)))
  (.go <|
  .ret [] [] false))
  (.go <|
  .ret [] [] false)
noncomputable def m_spec_l2One (p : ((List Int) × Int)) (x_ : (List Int)) : Option (Bool) := den (s_spec_l2One p x_)
theorem ok_spec_l2One (p : ((List Int) × Int)) (x_ : (List Int)) : ∀ r, m_spec_l2One p x_ = some r → CallOK Try.prog n_spec_l2One [T.agg (c_P2_LI_I p), T.one (V.arr 1 (List.map c_I x_))] [] (T.one (V.bool r)) [] :=
  fun r h => fnOK mixed (G := fun r => (T.one (V.bool r), [])) (by kernel_rfl) r h

def spec_l2Dot_l0_S (a : (List Int)) (b : (List Int)) (sum : Int) (i : Int) : St := ⟨mkSl 25 [(0, T.one (V.arr 1 (List.map c_I a))), (1, T.one (V.arr 1 (List.map c_I b))), (4, T.one (V.int .i64 0)), (5, T.one (V.int .i64 sum)), (6, T.one (V.int .i64 i))], []⟩
def spec_l2Dot_l0_X0 (a : (List Int)) (b : (List Int)) (sum : Int) : St := ⟨mkSl 25 [(4, T.one (V.int .i64 0)), (5, T.one (V.int .i64 sum))], []⟩
def spec_l2Dot_l0_G (a : (List Int)) (b : (List Int)) : (Int × Int) ⊕ Int → AExit × St
  | .inl s => (.normal, spec_l2Dot_l0_S a b s.1 s.2)
  | .inr d => ((.exit 0), spec_l2Dot_l0_X0 a b d)
noncomputable def spec_l2Dot_l0 (a : (List Int)) (b : (List Int)) (sum : Int) (i : Int) : Sc Try.prog ((Int × Int) ⊕ Int) :=
  .go <|
  .brc (decide ((i : Int) < (ln c_I a)))
  (get 3 c_I a i fun x1 =>
  get 7 c_I b i fun x2 =>
  .go <|
  .go <|
  .ret [0, 1, 4, 5, 6] [] (.inl ((w64 (sum + (w64 (x1 * x2)))), (w64 (i + 1)))))
  (.ret [4, 5] [] (.inr sum))
noncomputable def m_spec_l2Dot_l0 (a : (List Int)) (b : (List Int)) (s : (Int × Int)) : Option Int := lrun (fun s => den (spec_l2Dot_l0 a b s.1 s.2)) s
theorem ok_spec_l2Dot_l0 (a : (List Int)) (b : (List Int)) (s : (Int × Int)) (d : Int) (h : m_spec_l2Dot_l0 a b s = some d) : ExecOK Try.prog (.loop (bodyOf Try.prog n_spec_l2Dot 0)) (spec_l2Dot_l0_S a b s.1 s.2) (spec_l2Dot_l0_G a b (.inr d)).1 (spec_l2Dot_l0_G a b (.inr d)).2 :=
  loopOK mixed (G := spec_l2Dot_l0_G a b) (sc := fun s => spec_l2Dot_l0 a b s.1 s.2) (fun s => by kernel_rfl) (fun _ => rfl) (fun d => rfl) s d h
noncomputable def s_spec_l2Dot (a : (List Int)) (b : (List Int)) : Sc Try.prog (Int) :=
  .go <|
  .go <|
  .go <|
  lp (ok_spec_l2Dot_l0 a b (0, 0)) [0, 1, 4, 5, 6] [] fun x3 =>
  .go <|
  .ret [] [] x3
noncomputable def m_spec_l2Dot (a : (List Int)) (b : (List Int)) : Option (Int) := den (s_spec_l2Dot a b)
theorem ok_spec_l2Dot (a : (List Int)) (b : (List Int)) : ∀ r, m_spec_l2Dot a b = some r → CallOK Try.prog n_spec_l2Dot [T.one (V.arr 1 (List.map c_I a)), T.one (V.arr 1 (List.map c_I b))] [] (T.one (V.int .i64 r)) [] :=
  fun r h => fnOK mixed (G := fun r => (T.one (V.int .i64 r), [])) (by kernel_rfl) r h

noncomputable def s_spec_l2Side (p : ((List Int) × Int)) (x_ : (List Int)) : Sc Try.prog (Int) :=
  .go <|
  call 3 (ok_spec_l2Dot p.1 x_) [] [] [] [] fun x1 =>
  .go <|
  .brc (decide ((x1 : Int) ≥ p.2))
  (.go <|
  .ret [] [] 1)
  (.go <|
  .ret [] [] (-1))
noncomputable def m_spec_l2Side (p : ((List Int) × Int)) (x_ : (List Int)) : Option (Int) := den (s_spec_l2Side p x_)
theorem ok_spec_l2Side (p : ((List Int) × Int)) (x_ : (List Int)) : ∀ r, m_spec_l2Side p x_ = some r → CallOK Try.prog n_spec_l2Side [T.agg (c_P2_LI_I p), T.one (V.arr 1 (List.map c_I x_))] [] (T.one (V.int .i64 r)) [] :=
  fun r h => fnOK mixed (G := fun r => (T.one (V.int .i64 r), [])) (by kernel_rfl) r h

noncomputable def s_spec_l1Own (l : (List Int)) : Sc Try.prog ((List Int)) :=
  chs 0 (.own [(0, 900, 3, 1)]) <|
  .go <|
  app 2 c_I 8 [] l <|
  .go <|
  .ret [3] [] l
noncomputable def m_spec_l1Own (l : (List Int)) : Option ((List Int)) := den (s_spec_l1Own l)
theorem ok_spec_l1Own (l : (List Int)) : ∀ r, m_spec_l1Own l = some r → CallOK Try.prog n_spec_l1Own [T.one (V.arr 1 (List.map c_I l))] [] (T.one (V.arr 1 (List.map c_I r))) [] :=
  fun r h => fnOK mixed (G := fun r => (T.one (V.arr 1 (List.map c_I r)), [])) (by kernel_rfl) r h

def spec_l1Cur_someSample_j0_S (d_ : Int) (x2 : Int) (x3 : ((List Int) × Int) × ((List Int) × Int × Int)) (x4 : Bool × ((List Int) × Int × Int)) (o900 : (List (List Int))) (o901 : (List Int)) (i : Int) (x5 : (List Int) × ((List Int) × Int × Int)) (x6 : Int × ((List Int) × Int × Int)) : St := ⟨mkSl 114 [(0, T.one (V.ptr 1000 1 0 0)), (1, T.one (V.int .i64 d_)), (6, T.one (V.ptr 6 1 0 0)), (7, T.one (V.ptr 7 1 0 0)), (8, T.one (V.int .i64 x2)), (9, T.one (V.ptr 9 1 0 0)), (10, T.one (V.bool (!x4.1))), (11, T.one (V.int .i64 i)), (12, T.one (V.arr 1 (List.map c_I x5.1))), (13, T.one (V.int .i64 (w64 (1 - (w64 (2 * x6.1))))))], [(1000, Ob.mk 1 (some (Con.mk 91 3 false [[V.arr 1 (List.map c_Y x6.2.1), V.int .i64 x6.2.2.1, V.int .u64 x6.2.2.2]]))), (6, Ob.mk 1 (some (Con.mk 31 2 false [[V.nil, V.nil]]))), (7, Ob.mk 1 (some (Con.mk 31 2 false [[V.ref 900 1, V.ref 901 1]]))), (9, Ob.mk 1 (some (Con.mk 28 2 false [[V.arr 1 (List.map c_I x3.1.1), V.int .i64 x3.1.2]]))), (900, Ob.mk 1 (some (Con.mk 23 1 true (List.map c_LI o900)))), (901, Ob.mk 1 (some (Con.mk 3 1 true (List.map c_I o901))))]⟩
def spec_l1Cur_someSample_j0_X0 (d_ : Int) (x2 : Int) (x3 : ((List Int) × Int) × ((List Int) × Int × Int)) (x4 : Bool × ((List Int) × Int × Int)) (o900 : (List (List Int))) (o901 : (List Int)) (i : Int) (x5 : (List Int) × ((List Int) × Int × Int)) (x6 : Int × ((List Int) × Int × Int)) (label : Int) : St := ⟨mkSl 114 [(0, T.one (V.ptr 1000 1 0 0)), (1, T.one (V.int .i64 d_)), (6, T.one (V.ptr 6 1 0 0)), (7, T.one (V.ptr 7 1 0 0)), (8, T.one (V.int .i64 x2)), (9, T.one (V.ptr 9 1 0 0)), (10, T.one (V.bool (!x4.1))), (11, T.one (V.int .i64 i)), (12, T.one (V.arr 1 (List.map c_I x5.1))), (13, T.one (V.int .i64 label))], [(1000, Ob.mk 1 (some (Con.mk 91 3 false [[V.arr 1 (List.map c_Y x6.2.1), V.int .i64 x6.2.2.1, V.int .u64 x6.2.2.2]]))), (6, Ob.mk 1 (some (Con.mk 31 2 false [[V.nil, V.nil]]))), (7, Ob.mk 1 (some (Con.mk 31 2 false [[V.ref 900 1, V.ref 901 1]]))), (9, Ob.mk 1 (some (Con.mk 28 2 false [[V.arr 1 (List.map c_I x3.1.1), V.int .i64 x3.1.2]]))), (900, Ob.mk 1 (some (Con.mk 23 1 true (List.map c_LI o900)))), (901, Ob.mk 1 (some (Con.mk 3 1 true (List.map c_I o901))))]⟩
def spec_l1Cur_someSample_j0_G (d_ : Int) (x2 : Int) (x3 : ((List Int) × Int) × ((List Int) × Int × Int)) (x4 : Bool × ((List Int) × Int × Int)) (o900 : (List (List Int))) (o901 : (List Int)) (i : Int) (x5 : (List Int) × ((List Int) × Int × Int)) (x6 : Int × ((List Int) × Int × Int)) : Int → AExit × St
  | d => (.normal, spec_l1Cur_someSample_j0_X0 d_ x2 x3 x4 o900 o901 i x5 x6 d)
noncomputable def spec_l1Cur_someSample_j0 (d_ : Int) (x2 : Int) (x3 : ((List Int) × Int) × ((List Int) × Int × Int)) (x4 : Bool × ((List Int) × Int × Int)) (o900 : (List (List Int))) (o901 : (List Int)) (i : Int) (x5 : (List Int) × ((List Int) × Int × Int)) (x6 : Int × ((List Int) × Int × Int)) : Sc Try.prog Int :=
  .br 1 (!x4.1)
  (call 4 (ok_spec_l2One x3.1 x5.1) [] [] [] [] fun x7 =>
  .go <|
  .brc x7
  (call 2 (ok_spec_l2Side x3.1 x5.1) [] [] [] [] fun x8 =>
  .go <|
  .ret [0, 1, 6, 7, 8, 9, 10, 11, 12, 13] [1000, 6, 7, 9, 900, 901] x8)
  (.ret [0, 1, 6, 7, 8, 9, 10, 11, 12, 13] [1000, 6, 7, 9, 900, 901] (w64 (1 - (w64 (2 * x6.1))))))
  (.go <|
  .brk false <|
  .ret [0, 1, 6, 7, 8, 9, 10, 11, 12, 13] [1000, 6, 7, 9, 900, 901] (w64 (1 - (w64 (2 * x6.1)))))
noncomputable def m_spec_l1Cur_someSample_j0 (d_ : Int) (x2 : Int) (x3 : ((List Int) × Int) × ((List Int) × Int × Int)) (x4 : Bool × ((List Int) × Int × Int)) (o900 : (List (List Int))) (o901 : (List Int)) (i : Int) (x5 : (List Int) × ((List Int) × Int × Int)) (x6 : Int × ((List Int) × Int × Int)) : Option Int := den (spec_l1Cur_someSample_j0 d_ x2 x3 x4 o900 o901 i x5 x6)
theorem ok_spec_l1Cur_someSample_j0 (d_ : Int) (x2 : Int) (x3 : ((List Int) × Int) × ((List Int) × Int × Int)) (x4 : Bool × ((List Int) × Int × Int)) (o900 : (List (List Int))) (o901 : (List Int)) (i : Int) (x5 : (List Int) × ((List Int) × Int × Int)) (x6 : Int × ((List Int) × Int × Int)) (d : Int) (h : m_spec_l1Cur_someSample_j0 d_ x2 x3 x4 o900 o901 i x5 x6 = some d) : ExecOK Try.prog (codeOf Try.prog n_spec_l1Cur_someSample [1, 1, 1, 0, 1, 0, 0, 1, 0, 0, 1, 0]) (spec_l1Cur_someSample_j0_S d_ x2 x3 x4 o900 o901 i x5 x6) (spec_l1Cur_someSample_j0_G d_ x2 x3 x4 o900 o901 i x5 x6 d).1 (spec_l1Cur_someSample_j0_G d_ x2 x3 x4 o900 o901 i x5 x6 d).2 :=
  codeOK mixed (G := spec_l1Cur_someSample_j0_G d_ x2 x3 x4 o900 o901 i x5 x6) (by kernel_rfl) d h
def spec_l1Cur_someSample_l0_S (d_ : Int) (x2 : Int) (x3 : ((List Int) × Int) × ((List Int) × Int × Int)) (x4 : Bool × ((List Int) × Int × Int)) (o900 : (List (List Int))) (o901 : (List Int)) (o1000 : (List Int)) (o10001 : Int) (o10002 : Int) (i : Int) : St := ⟨mkSl 114 [(0, T.one (V.ptr 1000 1 0 0)), (1, T.one (V.int .i64 d_)), (6, T.one (V.ptr 6 1 0 0)), (7, T.one (V.ptr 7 1 0 0)), (8, T.one (V.int .i64 x2)), (9, T.one (V.ptr 9 1 0 0)), (10, T.one (V.bool (!x4.1))), (11, T.one (V.int .i64 i))], [(1000, Ob.mk 1 (some (Con.mk 91 3 false [[V.arr 1 (List.map c_Y o1000), V.int .i64 o10001, V.int .u64 o10002]]))), (6, Ob.mk 1 (some (Con.mk 31 2 false [[V.nil, V.nil]]))), (7, Ob.mk 1 (some (Con.mk 31 2 false [[V.ref 900 1, V.ref 901 1]]))), (9, Ob.mk 1 (some (Con.mk 28 2 false [[V.arr 1 (List.map c_I x3.1.1), V.int .i64 x3.1.2]]))), (900, Ob.mk 1 (some (Con.mk 23 1 true (List.map c_LI o900)))), (901, Ob.mk 1 (some (Con.mk 3 1 true (List.map c_I o901))))]⟩
def spec_l1Cur_someSample_l0_X0 (d_ : Int) (x2 : Int) (x3 : ((List Int) × Int) × ((List Int) × Int × Int)) (x4 : Bool × ((List Int) × Int × Int)) (o900 : (List (List Int))) (o901 : (List Int)) (o1000 : (List Int)) (o10001 : Int) (o10002 : Int) : St := ⟨mkSl 114 [(0, T.one (V.ptr 1000 1 0 0)), (1, T.one (V.int .i64 d_)), (6, T.one (V.ptr 6 1 0 0)), (7, T.one (V.ptr 7 1 0 0)), (8, T.one (V.int .i64 x2))], [(1000, Ob.mk 1 (some (Con.mk 91 3 false [[V.arr 1 (List.map c_Y o1000), V.int .i64 o10001, V.int .u64 o10002]]))), (6, Ob.mk 1 (some (Con.mk 31 2 false [[V.nil, V.nil]]))), (7, Ob.mk 1 (some (Con.mk 31 2 false [[V.ref 900 1, V.ref 901 1]]))), (900, Ob.mk 1 (some (Con.mk 23 1 true (List.map c_LI o900)))), (901, Ob.mk 1 (some (Con.mk 3 1 true (List.map c_I o901))))]⟩
def spec_l1Cur_someSample_l0_G (d_ : Int) (x2 : Int) (x3 : ((List Int) × Int) × ((List Int) × Int × Int)) (x4 : Bool × ((List Int) × Int × Int)) : ((List (List Int)) × (List Int) × (List Int) × Int × Int × Int) ⊕ ((List (List Int)) × (List Int) × (List Int) × Int × Int) → AExit × St
  | .inl s => (.normal, spec_l1Cur_someSample_l0_S d_ x2 x3 x4 s.1 s.2.1 s.2.2.1 s.2.2.2.1 s.2.2.2.2.1 s.2.2.2.2.2)
  | .inr d => ((.exit 0), spec_l1Cur_someSample_l0_X0 d_ x2 x3 x4 d.1 d.2.1 d.2.2.1 d.2.2.2.1 d.2.2.2.2)
noncomputable def spec_l1Cur_someSample_l0 (d_ : Int) (x2 : Int) (x3 : ((List Int) × Int) × ((List Int) × Int × Int)) (x4 : Bool × ((List Int) × Int × Int)) (o900 : (List (List Int))) (o901 : (List Int)) (o1000 : (List Int)) (o10001 : Int) (o10002 : Int) (i : Int) : Sc Try.prog (((List (List Int)) × (List Int) × (List Int) × Int × Int × Int) ⊕ ((List (List Int)) × (List Int) × (List Int) × Int × Int)) :=
  .go <|
  .brc (decide ((i : Int) < x2))
  (call 2 (ok_spec_l1Cur_point (o1000, o10001, o10002) d_) [] [] [1000] [] fun x5 =>
  call 4 (ok_spec_l1Cur_pick x5.2 2) [] [] [1000] [] fun x6 =>
  .go <|
  .at_ 1 <|
  lp (ok_spec_l1Cur_someSample_j0 d_ x2 x3 x4 o900 o901 i x5 x6) [0, 1, 6, 7, 8, 9, 10, 11, 12, 13] [1000, 6, 7, 9, 900, 901] fun x9 =>
  chs 3 .tree <|
  app 4 c_LI 24 o900 ([x5.1] : List (List Int)) <|
  .go <|
  chs 3 .tree <|
  app 4 c_I 8 o901 ([x9] : List Int) <|
  .go <|
  .go <|
  .ret [0, 1, 6, 7, 8, 9, 10, 11] [1000, 6, 7, 9, 900, 901] (.inl ((o900 ++ ([x5.1] : List (List Int))), (o901 ++ ([x9] : List Int)), x6.2.1, x6.2.2.1, x6.2.2.2, (w64 (i + 1)))))
  (.ret [0, 1, 6, 7, 8] [1000, 6, 7, 900, 901] (.inr (o900, o901, o1000, o10001, o10002)))
noncomputable def m_spec_l1Cur_someSample_l0 (d_ : Int) (x2 : Int) (x3 : ((List Int) × Int) × ((List Int) × Int × Int)) (x4 : Bool × ((List Int) × Int × Int)) (s : ((List (List Int)) × (List Int) × (List Int) × Int × Int × Int)) : Option ((List (List Int)) × (List Int) × (List Int) × Int × Int) := lrun (fun s => den (spec_l1Cur_someSample_l0 d_ x2 x3 x4 s.1 s.2.1 s.2.2.1 s.2.2.2.1 s.2.2.2.2.1 s.2.2.2.2.2)) s
theorem ok_spec_l1Cur_someSample_l0 (d_ : Int) (x2 : Int) (x3 : ((List Int) × Int) × ((List Int) × Int × Int)) (x4 : Bool × ((List Int) × Int × Int)) (s : ((List (List Int)) × (List Int) × (List Int) × Int × Int × Int)) (d : ((List (List Int)) × (List Int) × (List Int) × Int × Int)) (h : m_spec_l1Cur_someSample_l0 d_ x2 x3 x4 s = some d) : ExecOK Try.prog (.loop (bodyOf Try.prog n_spec_l1Cur_someSample 0)) (spec_l1Cur_someSample_l0_S d_ x2 x3 x4 s.1 s.2.1 s.2.2.1 s.2.2.2.1 s.2.2.2.2.1 s.2.2.2.2.2) (spec_l1Cur_someSample_l0_G d_ x2 x3 x4 (.inr d)).1 (spec_l1Cur_someSample_l0_G d_ x2 x3 x4 (.inr d)).2 :=
  loopOK mixed (G := spec_l1Cur_someSample_l0_G d_ x2 x3 x4) (sc := fun s => spec_l1Cur_someSample_l0 d_ x2 x3 x4 s.1 s.2.1 s.2.2.1 s.2.2.2.1 s.2.2.2.2.1 s.2.2.2.2.2) (fun s => by kernel_rfl) (fun _ => rfl) (fun d => rfl) s d h
def spec_l1Cur_someSample_j1_S (d_ : Int) (x2 : Int) (x10 : ((List (List Int)) × (List Int) × (List Int) × Int × Int)) : St := ⟨mkSl 114 [(0, T.one (V.ptr 1000 1 0 0)), (1, T.one (V.int .i64 d_)), (6, T.one (V.ptr 6 1 0 0)), (7, T.one (V.ptr 7 1 0 0)), (8, T.one (V.int .i64 x2))], [(1000, Ob.mk 1 (some (Con.mk 91 3 false [[V.arr 1 (List.map c_Y x10.2.2.1), V.int .i64 x10.2.2.2.1, V.int .u64 x10.2.2.2.2]]))), (6, Ob.mk 1 (some (Con.mk 31 2 false [[V.nil, V.nil]]))), (7, Ob.mk 1 (some (Con.mk 31 2 false [[V.ref 900 1, V.ref 901 1]]))), (900, Ob.mk 1 (some (Con.mk 23 1 true (List.map c_LI x10.1)))), (901, Ob.mk 1 (some (Con.mk 3 1 true (List.map c_I x10.2.1))))]⟩
def spec_l1Cur_someSample_j1_X0 (d_ : Int) (x2 : Int) (x10 : ((List (List Int)) × (List Int) × (List Int) × Int × Int)) (o900 : (List (List Int))) (o1000 : (List Int)) (o10001 : Int) (o10002 : Int) : St := ⟨mkSl 114 [(0, T.one (V.ptr 1000 1 0 0)), (1, T.one (V.int .i64 d_)), (6, T.one (V.ptr 6 1 0 0)), (7, T.one (V.ptr 7 1 0 0)), (8, T.one (V.int .i64 x2))], [(1000, Ob.mk 1 (some (Con.mk 91 3 false [[V.arr 1 (List.map c_Y o1000), V.int .i64 o10001, V.int .u64 o10002]]))), (6, Ob.mk 1 (some (Con.mk 31 2 false [[V.nil, V.nil]]))), (7, Ob.mk 1 (some (Con.mk 31 2 false [[V.ref 900 1, V.ref 901 1]]))), (900, Ob.mk 1 (some (Con.mk 23 1 true (List.map c_LI o900)))), (901, Ob.mk 1 (some (Con.mk 3 1 true (List.map c_I x10.2.1))))]⟩
def spec_l1Cur_someSample_j1_G (d_ : Int) (x2 : Int) (x10 : ((List (List Int)) × (List Int) × (List Int) × Int × Int)) : ((List (List Int)) × (List Int) × Int × Int) → AExit × St
  | d => (.normal, spec_l1Cur_someSample_j1_X0 d_ x2 x10 d.1 d.2.1 d.2.2.1 d.2.2.2)
noncomputable def spec_l1Cur_someSample_j1 (d_ : Int) (x2 : Int) (x10 : ((List (List Int)) × (List Int) × (List Int) × Int × Int)) : Sc Try.prog ((List (List Int)) × (List Int) × Int × Int) :=
  .br 2 (decide ((x2 : Int) > 1))
  (call 4 (ok_spec_l1Cur_one x10.2.2 10) [] [] [1000] [] fun x11 =>
  .go <|
  .brc x11.1
  (idx c_LI x10.1 1 <|
  ld 5 c_LI x10.1 1 fun x12 =>
  call 6 (ok_spec_l1Own x12) [] [] [] [] fun x13 =>
  idx c_LI x10.1 0 <|
  upd 8 c_LI x10.1 0 (fun _ => x13) fun x14 =>
  .go <|
  .ret [0, 1, 6, 7, 8] [1000, 6, 7, 900, 901] ((List.set x10.1 0 x13), x11.2.1, x11.2.2.1, x11.2.2.2))
  (.ret [0, 1, 6, 7, 8] [1000, 6, 7, 900, 901] (x10.1, x11.2.1, x11.2.2.1, x11.2.2.2)))
  (.go <|
  .brk false <|
  .ret [0, 1, 6, 7, 8] [1000, 6, 7, 900, 901] (x10.1, x10.2.2.1, x10.2.2.2.1, x10.2.2.2.2))
noncomputable def m_spec_l1Cur_someSample_j1 (d_ : Int) (x2 : Int) (x10 : ((List (List Int)) × (List Int) × (List Int) × Int × Int)) : Option ((List (List Int)) × (List Int) × Int × Int) := den (spec_l1Cur_someSample_j1 d_ x2 x10)
theorem ok_spec_l1Cur_someSample_j1 (d_ : Int) (x2 : Int) (x10 : ((List (List Int)) × (List Int) × (List Int) × Int × Int)) (d : ((List (List Int)) × (List Int) × Int × Int)) (h : m_spec_l1Cur_someSample_j1 d_ x2 x10 = some d) : ExecOK Try.prog (codeOf Try.prog n_spec_l1Cur_someSample [1, 1, 1, 1, 0]) (spec_l1Cur_someSample_j1_S d_ x2 x10) (spec_l1Cur_someSample_j1_G d_ x2 x10 d).1 (spec_l1Cur_someSample_j1_G d_ x2 x10 d).2 :=
  codeOK mixed (G := spec_l1Cur_someSample_j1_G d_ x2 x10) (by kernel_rfl) d h
def spec_l1Cur_someSample_l1_S (d_ : Int) (x16 : Int × ((List Int) × Int × Int)) (o900 : (List (List Int))) (o901 : (List Int)) : St := ⟨mkSl 114 [(1, T.one (V.int .i64 d_)), (6, T.one (V.ptr 6 1 0 0)), (7, T.one (V.ptr 7 1 0 0))], [(6, Ob.mk 1 (some (Con.mk 31 2 false [[V.nil, V.nil]]))), (7, Ob.mk 1 (some (Con.mk 31 2 false [[V.ref 900 1, V.ref 901 1]]))), (1000, Ob.mk 1 (some (Con.mk 91 3 false [[V.arr 1 (List.map c_Y x16.2.1), V.int .i64 x16.2.2.1, V.int .u64 x16.2.2.2]]))), (900, Ob.mk 1 (some (Con.mk 23 1 true (List.map c_LI o900)))), (901, Ob.mk 1 (some (Con.mk 3 1 true (List.map c_I o901))))]⟩
def spec_l1Cur_someSample_l1_X0 (d_ : Int) (x16 : Int × ((List Int) × Int × Int)) (o900 : (List (List Int))) (o901 : (List Int)) : St := ⟨mkSl 114 [(6, T.one (V.ptr 6 1 0 0)), (7, T.one (V.ptr 7 1 0 0))], [(6, Ob.mk 1 (some (Con.mk 31 2 false [[V.nil, V.nil]]))), (7, Ob.mk 1 (some (Con.mk 31 2 false [[V.ref 900 1, V.ref 901 1]]))), (1000, Ob.mk 1 (some (Con.mk 91 3 false [[V.arr 1 (List.map c_Y x16.2.1), V.int .i64 x16.2.2.1, V.int .u64 x16.2.2.2]]))), (900, Ob.mk 1 (some (Con.mk 23 1 true (List.map c_LI o900)))), (901, Ob.mk 1 (some (Con.mk 3 1 true (List.map c_I o901))))]⟩
def spec_l1Cur_someSample_l1_G (d_ : Int) (x16 : Int × ((List Int) × Int × Int)) : ((List (List Int)) × (List Int)) ⊕ ((List (List Int)) × (List Int)) → AExit × St
  | .inl s => (.normal, spec_l1Cur_someSample_l1_S d_ x16 s.1 s.2)
  | .inr d => ((.exit 3), spec_l1Cur_someSample_l1_X0 d_ x16 d.1 d.2)
noncomputable def spec_l1Cur_someSample_l1 (d_ : Int) (x16 : Int × ((List Int) × Int × Int)) (o900 : (List (List Int))) (o901 : (List Int)) : Sc Try.prog (((List (List Int)) × (List Int)) ⊕ ((List (List Int)) × (List Int))) :=
  .go <|
  .brc (decide (((ln c_LI o900) : Int) < 17))
  (chs 3 (.frz .std [104]) <|
  mk 3 c_I 8 d_ 0 <|
  chs 4 .tree <|
  app 5 c_LI 24 o900 ([(List.replicate (Int.toNat d_) 0)] : List (List Int)) <|
  .go <|
  chs 2 .tree <|
  app 3 c_I 8 o901 ([1] : List Int) <|
  .go <|
  .ret [1, 6, 7] [6, 7, 1000, 900, 901] (.inl ((o900 ++ ([(List.replicate (Int.toNat d_) 0)] : List (List Int))), (o901 ++ ([1] : List Int)))))
  (.ret [6, 7] [6, 7, 1000, 900, 901] (.inr (o900, o901)))
noncomputable def m_spec_l1Cur_someSample_l1 (d_ : Int) (x16 : Int × ((List Int) × Int × Int)) (s : ((List (List Int)) × (List Int))) : Option ((List (List Int)) × (List Int)) := lrun (fun s => den (spec_l1Cur_someSample_l1 d_ x16 s.1 s.2)) s
theorem ok_spec_l1Cur_someSample_l1 (d_ : Int) (x16 : Int × ((List Int) × Int × Int)) (s : ((List (List Int)) × (List Int))) (d : ((List (List Int)) × (List Int))) (h : m_spec_l1Cur_someSample_l1 d_ x16 s = some d) : ExecOK Try.prog (.loop (bodyOf Try.prog n_spec_l1Cur_someSample 1)) (spec_l1Cur_someSample_l1_S d_ x16 s.1 s.2) (spec_l1Cur_someSample_l1_G d_ x16 (.inr d)).1 (spec_l1Cur_someSample_l1_G d_ x16 (.inr d)).2 :=
  loopOK mixed (G := spec_l1Cur_someSample_l1_G d_ x16) (sc := fun s => spec_l1Cur_someSample_l1 d_ x16 s.1 s.2) (fun s => by kernel_rfl) (fun _ => rfl) (fun d => rfl) s d h
noncomputable def s_spec_l1Cur_someSample (c_ : ((List Int) × Int × Int)) (d_ : Int) (most : Int) : Sc Try.prog (((List (List Int)) × (List Int)) × ((List Int) × Int × Int)) :=
  .go <|
  chs 0 (.own [(0, 900, 23, 1), (1, 901, 3, 1)]) <|
  chs 2 .tree <|
  call 3 (ok_spec_l1Cur_among c_ ([4, 6, 3, 5, 2, 8, 1, 0, 12, 16] : List Int)) [] [] [1000] [] fun x1 =>
  call 5 (ok_spec_l1Least x1.1 most) [] [] [] [] fun x2 =>
  .go <|
  call 2 (ok_spec_l1Cur_plane x1.2 d_) [] [] [1000] [] fun x3 =>
  call 4 (ok_spec_l1Cur_one x3.2 3) [] [] [1000] [] fun x4 =>
  .go <|
  .go <|
  lp (ok_spec_l1Cur_someSample_l0 d_ x2 x3 x4 ([], [], x4.2.1, x4.2.2.1, x4.2.2.2, 0)) [0, 1, 6, 7, 8, 9, 10, 11] [1000, 6, 7, 9, 900, 901] fun x10 =>
  .at_ 1 <|
  lp (ok_spec_l1Cur_someSample_j1 d_ x2 x10) [0, 1, 6, 7, 8] [1000, 6, 7, 900, 901] fun x15 =>
  call 1 (ok_spec_l1Cur_pick x15.2 50) [] [] [1000] [] fun x16 =>
  .go <|
  .go <|
  .brc ((x16.1 : Int) == 0)
  (chs 2 .tree <|
  app 3 c_I 8 x10.2.1 ([1] : List Int) <|
  .go <|
  .go <|
  .ret [900, 901] [1000] ((x15.1, (x10.2.1 ++ ([1] : List Int))), x16.2))
  (.go <|
  .brc ((x16.1 : Int) == 1)
  (.go <|
  .brc (decide ((x2 : Int) > 0))
  (call 4 (ok_spec_l1Cur_pick x16.2 x2) [] [] [1000] [] fun x17 =>
  chs 6 .tree <|
  call 7 (ok_spec_l1Cur_among x17.2 ([0, 2, (-2), 1] : List Int)) [] [] [1000] [] fun x18 =>
  idx c_I x10.2.1 x17.1 <|
  upd 9 c_I x10.2.1 (Int.toNat x17.1) (fun _ => x18.1) fun x19 =>
  .go <|
  .go <|
  .ret [900, 901] [1000] ((x15.1, (List.set x10.2.1 (Int.toNat x17.1) x18.1)), x18.2))
  (.go <|
  .ret [900, 901] [1000] ((x15.1, x10.2.1), x16.2)))
  (.go <|
  .brc ((x16.1 : Int) == 2)
  (lp (ok_spec_l1Cur_someSample_l1 d_ x16 (x15.1, x10.2.1)) [1, 6, 7] [6, 7, 1000, 900, 901] fun x20 =>
  .go <|
  .ret [900, 901] [1000] (x20, x16.2))
  (.go <|
  .ret [900, 901] [1000] ((x15.1, x10.2.1), x16.2))))
noncomputable def m_spec_l1Cur_someSample (c_ : ((List Int) × Int × Int)) (d_ : Int) (most : Int) : Option (((List (List Int)) × (List Int)) × ((List Int) × Int × Int)) := den (s_spec_l1Cur_someSample c_ d_ most)
theorem ok_spec_l1Cur_someSample (c_ : ((List Int) × Int × Int)) (d_ : Int) (most : Int) : ∀ r, m_spec_l1Cur_someSample c_ d_ most = some r → CallOK Try.prog n_spec_l1Cur_someSample [T.one (V.ptr 1000 1 0 0), T.one (V.int .i64 d_), T.one (V.int .i64 most)] [Ob.mk 1 (some (Con.mk 91 3 false [c_P3_LY_I_U c_]))] (T.agg (c_P2_LLI_LI r.1)) [Ob.mk 1 (some (Con.mk 91 3 false [c_P3_LY_I_U r.2]))] :=
  fun r h => fnOK mixed (G := fun r => (T.agg (c_P2_LLI_LI r.1), [Ob.mk 1 (some (Con.mk 91 3 false [c_P3_LY_I_U r.2]))])) (by kernel_rfl) r h

end Go.Abs
