import Derived.Test.YtkjlebnmeimfnaaGxN
import Derived.Test.YtkjlebnmeimfnaaGx0
import Derived.Test.YtkjlebnmeimfnaaGx1
import Derived.Test.YtkjlebnmeimfnaaGx2
import Derived.Test.YtkjlebnmeimfnaaGx4
namespace Go.Abs
open Go.Proofs

def spec_DrawPlaneOfCounts_j0_S (x2 : ((List (List Int)) × (List Int)) × ((List Int) × Int × Int)) (x3 : (List Int) × Bool) : St := ⟨mkSl 56 [(2, T.one (V.ptr 2 1 0 0)), (3, T.one (V.ref 900 1)), (4, T.one (V.ptr 12 1 0 0)), (5, T.one (V.ptr 5 1 0 0)), (6, T.one (V.arr 1 (List.map c_I x3.1))), (7, T.one (V.bool x3.2))], [(2, Ob.mk 1 (some (Con.mk 31 2 false [[V.nil, V.nil]]))), (900, Ob.mk 1 (some (Con.mk 3 1 true (List.map c_I [])))), (12, Ob.mk 1 (some (Con.mk 91 3 false [[V.arr 1 (List.map c_Y x2.2.1), V.int .i64 x2.2.2.1, V.int .u64 x2.2.2.2]]))), (5, Ob.mk 1 (some (Con.mk 31 2 false [[V.arr 1 (List.map c_LI x2.1.1), V.arr 1 (List.map c_I x2.1.2)]])))]⟩
def spec_DrawPlaneOfCounts_j0_X0 (x2 : ((List (List Int)) × (List Int)) × ((List Int) × Int × Int)) (x3 : (List Int) × Bool) : St := ⟨mkSl 56 [(2, T.one (V.ptr 2 1 0 0)), (3, T.one (V.arr 1 (List.map c_I x3.1)))], [(2, Ob.mk 1 (some (Con.mk 31 2 false [[V.arr 1 (List.map c_LI x2.1.1), V.arr 1 (List.map c_I x2.1.2)]])))]⟩
def spec_DrawPlaneOfCounts_j0_X1 (x2 : ((List (List Int)) × (List Int)) × ((List Int) × Int × Int)) (x3 : (List Int) × Bool) (o12 : (List Int)) (o121 : Int) (o122 : Int) : St := ⟨mkSl 56 [(2, T.one (V.ptr 2 1 0 0)), (3, T.one (V.ref 900 1)), (4, T.one (V.ptr 12 1 0 0)), (5, T.one (V.ptr 5 1 0 0))], [(2, Ob.mk 1 (some (Con.mk 31 2 false [[V.nil, V.nil]]))), (900, Ob.mk 1 (some (Con.mk 3 1 true (List.map c_I [])))), (12, Ob.mk 1 (some (Con.mk 91 3 false [[V.arr 1 (List.map c_Y o12), V.int .i64 o121, V.int .u64 o122]]))), (5, Ob.mk 1 (some (Con.mk 31 2 false [[V.arr 1 (List.map c_LI x2.1.1), V.arr 1 (List.map c_I x2.1.2)]])))]⟩
def spec_DrawPlaneOfCounts_j0_G (x2 : ((List (List Int)) × (List Int)) × ((List Int) × Int × Int)) (x3 : (List Int) × Bool) : (Unit ⊕ ((List Int) × Int × Int)) → AExit × St
  | .inl d => (.ret, spec_DrawPlaneOfCounts_j0_X0 x2 x3)
  | .inr d => (.normal, spec_DrawPlaneOfCounts_j0_X1 x2 x3 d.1 d.2.1 d.2.2)
noncomputable def spec_DrawPlaneOfCounts_j0 (x2 : ((List (List Int)) × (List Int)) × ((List Int) × Int × Int)) (x3 : (List Int) × Bool) : Sc Try.prog (Unit ⊕ ((List Int) × Int × Int)) :=
  .br 1 x3.2
  (call 3 (ok_spec_l1Cur_one x2.2 2) [] [] [12] [] fun x4 =>
  .go <|
  .brc x4.1
  (.go <|
  .ret [2, 3] [2] (.inl ()))
  (.ret [2, 3, 4, 5] [2, 900, 12, 5] (.inr (x4.2.1, x4.2.2.1, x4.2.2.2))))
  (.go <|
  .brk false <|
  .ret [2, 3, 4, 5] [2, 900, 12, 5] (.inr (x2.2.1, x2.2.2.1, x2.2.2.2)))
noncomputable def m_spec_DrawPlaneOfCounts_j0 (x2 : ((List (List Int)) × (List Int)) × ((List Int) × Int × Int)) (x3 : (List Int) × Bool) : Option (Unit ⊕ ((List Int) × Int × Int)) := den (spec_DrawPlaneOfCounts_j0 x2 x3)
theorem ok_spec_DrawPlaneOfCounts_j0 (x2 : ((List (List Int)) × (List Int)) × ((List Int) × Int × Int)) (x3 : (List Int) × Bool) (d : (Unit ⊕ ((List Int) × Int × Int))) (h : m_spec_DrawPlaneOfCounts_j0 x2 x3 = some d) : ExecOK Try.prog (codeOf Try.prog n_spec_DrawPlaneOfCounts [1, 1, 1, 0, 1]) (spec_DrawPlaneOfCounts_j0_S x2 x3) (spec_DrawPlaneOfCounts_j0_G x2 x3 d).1 (spec_DrawPlaneOfCounts_j0_G x2 x3 d).2 :=
  codeOK mixed (G := spec_DrawPlaneOfCounts_j0_G x2 x3) (by kernel_rfl) d h
def spec_DrawPlaneOfCounts_l0_S (x2 : ((List (List Int)) × (List Int)) × ((List Int) × Int × Int)) (o12 : (List Int)) (o121 : Int) (o122 : Int) (o29 : (List Int)) (i : Int) : St := ⟨mkSl 56 [(2, T.one (V.ptr 2 1 0 0)), (3, T.one (V.ref 900 1)), (4, T.one (V.ptr 12 1 0 0)), (5, T.one (V.ptr 5 1 0 0)), (8, T.one (V.ref 29 1)), (9, T.one (V.int .i64 i))], [(2, Ob.mk 1 (some (Con.mk 31 2 false [[V.nil, V.nil]]))), (900, Ob.mk 1 (some (Con.mk 3 1 true (List.map c_I [])))), (12, Ob.mk 1 (some (Con.mk 91 3 false [[V.arr 1 (List.map c_Y o12), V.int .i64 o121, V.int .u64 o122]]))), (5, Ob.mk 1 (some (Con.mk 31 2 false [[V.arr 1 (List.map c_LI x2.1.1), V.arr 1 (List.map c_I x2.1.2)]]))), (29, Ob.mk 1 (some (Con.mk 3 1 true (List.map c_I o29))))]⟩
def spec_DrawPlaneOfCounts_l0_X0 (x2 : ((List (List Int)) × (List Int)) × ((List Int) × Int × Int)) (o12 : (List Int)) (o121 : Int) (o122 : Int) (o29 : (List Int)) : St := ⟨mkSl 56 [(2, T.one (V.ptr 2 1 0 0)), (3, T.one (V.ref 900 1)), (4, T.one (V.ptr 12 1 0 0)), (5, T.one (V.ptr 5 1 0 0)), (8, T.one (V.ref 29 1))], [(2, Ob.mk 1 (some (Con.mk 31 2 false [[V.nil, V.nil]]))), (900, Ob.mk 1 (some (Con.mk 3 1 true (List.map c_I [])))), (12, Ob.mk 1 (some (Con.mk 91 3 false [[V.arr 1 (List.map c_Y o12), V.int .i64 o121, V.int .u64 o122]]))), (5, Ob.mk 1 (some (Con.mk 31 2 false [[V.arr 1 (List.map c_LI x2.1.1), V.arr 1 (List.map c_I x2.1.2)]]))), (29, Ob.mk 1 (some (Con.mk 3 1 true (List.map c_I o29))))]⟩
def spec_DrawPlaneOfCounts_l0_G (x2 : ((List (List Int)) × (List Int)) × ((List Int) × Int × Int)) : ((List Int) × Int × Int × (List Int) × Int) ⊕ ((List Int) × Int × Int × (List Int)) → AExit × St
  | .inl s => (.normal, spec_DrawPlaneOfCounts_l0_S x2 s.1 s.2.1 s.2.2.1 s.2.2.2.1 s.2.2.2.2)
  | .inr d => ((.exit 0), spec_DrawPlaneOfCounts_l0_X0 x2 d.1 d.2.1 d.2.2.1 d.2.2.2)
noncomputable def spec_DrawPlaneOfCounts_l0 (x2 : ((List (List Int)) × (List Int)) × ((List Int) × Int × Int)) (o12 : (List Int)) (o121 : Int) (o122 : Int) (o29 : (List Int)) (i : Int) : Sc Try.prog (((List Int) × Int × Int × (List Int) × Int) ⊕ ((List Int) × Int × Int × (List Int))) :=
  .go <|
  .brc (decide ((i : Int) < (ln c_LI x2.1.1)))
  (call 2 (ok_spec_l1Cur_pick (o12, o121, o122) 3) [] [] [12] [] fun x7 =>
  chs 3 .tree <|
  app 4 c_I 8 o29 ([x7.1] : List Int) <|
  .go <|
  .go <|
  .ret [2, 3, 4, 5, 8, 9] [2, 900, 12, 5, 29] (.inl (x7.2.1, x7.2.2.1, x7.2.2.2, (o29 ++ ([x7.1] : List Int)), (w64 (i + 1)))))
  (.ret [2, 3, 4, 5, 8] [2, 900, 12, 5, 29] (.inr (o12, o121, o122, o29)))
noncomputable def m_spec_DrawPlaneOfCounts_l0 (x2 : ((List (List Int)) × (List Int)) × ((List Int) × Int × Int)) (s : ((List Int) × Int × Int × (List Int) × Int)) : Option ((List Int) × Int × Int × (List Int)) := lrun (fun s => den (spec_DrawPlaneOfCounts_l0 x2 s.1 s.2.1 s.2.2.1 s.2.2.2.1 s.2.2.2.2)) s
theorem ok_spec_DrawPlaneOfCounts_l0 (x2 : ((List (List Int)) × (List Int)) × ((List Int) × Int × Int)) (s : ((List Int) × Int × Int × (List Int) × Int)) (d : ((List Int) × Int × Int × (List Int))) (h : m_spec_DrawPlaneOfCounts_l0 x2 s = some d) : ExecOK Try.prog (.loop (bodyOf Try.prog n_spec_DrawPlaneOfCounts 0)) (spec_DrawPlaneOfCounts_l0_S x2 s.1 s.2.1 s.2.2.1 s.2.2.2.1 s.2.2.2.2) (spec_DrawPlaneOfCounts_l0_G x2 (.inr d)).1 (spec_DrawPlaneOfCounts_l0_G x2 (.inr d)).2 :=
  loopOK mixed (G := spec_DrawPlaneOfCounts_l0_G x2) (sc := fun s => spec_DrawPlaneOfCounts_l0 x2 s.1 s.2.1 s.2.2.1 s.2.2.2.1 s.2.2.2.2) (fun s => by kernel_rfl) (fun _ => rfl) (fun d => rfl) s d h
noncomputable def s_spec_DrawPlaneOfCounts (code : (List Int)) : Sc Try.prog (((List (List Int)) × (List Int)) × (List Int)) :=
  chs 1 (.own [(0, 900, 3, 1)]) <|
  .go <|
  .go <|
  call 2 (ok_spec_l1Cur_space (code, 0, 0)) [] [] [12] [] fun x1 =>
  call 3 (ok_spec_l1Cur_someSample x1.2 x1.1 8) [] [] [12] [] fun x2 =>
  .go <|
  call 1 (ok_spec_DualCounts x2.1 3) [] [] [] [] fun x3 =>
  .go <|
  .at_ 0 <|
  lp2 (ok_spec_DrawPlaneOfCounts_j0 x2 x3) [2, 3, 4, 5, 6, 7] [2, 900, 12, 5]
  (fun x5 =>
  .ret [] [] (x2.1, x3.1))
  (fun x6 =>
  .go <|
  .go <|
  lp (ok_spec_DrawPlaneOfCounts_l0 x2 (x6.1, x6.2.1, x6.2.2, [], 0)) [2, 3, 4, 5, 8, 9] [2, 900, 12, 5, 29] fun x8 =>
  .br 3 (decide (((ln c_I x8.2.2.2) : Int) > 0))
  (call 5 (ok_spec_l1Cur_one (x8.1, x8.2.1, x8.2.2.1) 16) [] [] [12] [] fun x9 =>
  .go <|
  .brc x9.1
  (chs 2 .tree <|
  call 3 (ok_spec_l1Cur_among x9.2 ([(-1), 999, 1000] : List Int)) [] [] [12] [] fun x10 =>
  idx c_I x8.2.2.2 0 <|
  upd 5 c_I x8.2.2.2 0 (fun _ => x10.1) fun x11 =>
  .go <|
  .go <|
  .ret [29] [] (x2.1, (List.set x8.2.2.2 0 x10.1)))
  (.go <|
  .ret [29] [] (x2.1, x8.2.2.2)))
  (.go <|
  .brk false <|
  .go <|
  .ret [29] [] (x2.1, x8.2.2.2)))
noncomputable def m_spec_DrawPlaneOfCounts (code : (List Int)) : Option (((List (List Int)) × (List Int)) × (List Int)) := den (s_spec_DrawPlaneOfCounts code)
theorem ok_spec_DrawPlaneOfCounts (code : (List Int)) : ∀ r, m_spec_DrawPlaneOfCounts code = some r → CallOK Try.prog n_spec_DrawPlaneOfCounts [T.one (V.arr 1 (List.map c_Y code))] [] (T.tup [T.agg (c_P2_LLI_LI r.1), T.one (V.arr 1 (List.map c_I r.2))]) [] :=
  fun r h => fnOK mixed (G := fun r => (T.tup [T.agg (c_P2_LLI_LI r.1), T.one (V.arr 1 (List.map c_I r.2))], [])) (by kernel_rfl) r h

def impl_PlaneOfCounts_l1_S (s_ : ((List (List Int)) × (List Int))) (counts : (List Int)) (p1 : Int) (t45 : Int) (x4 : (List Int)) (x5 : Int) (x6 : Int) (o402 : (List Int)) (t62 : Int) : St := ⟨mkSl 89 [(1, T.one (V.arr 1 (List.map c_I counts))), (2, T.one (V.ptr 2 1 0 0)), (4, T.one (V.ptr 4 1 0 0)), (5, T.one (V.bool false)), (6, T.one (V.ptr 6 1 0 0)), (9, T.one (V.int .i64 (w64 (x5 * x6)))), (43, T.one (V.arr 1 (List.map c_LI s_.1))), (44, T.one (V.int .i64 (ln c_LI s_.1))), (45, T.one (V.int .i64 t45)), (60, T.one (V.arr 1 (List.map c_I x4))), (61, T.one (V.int .i64 (ln c_I x4))), (62, T.one (V.int .i64 t62))], [(2, Ob.mk 1 (some (Con.mk 31 2 false [[V.arr 1 (List.map c_LI s_.1), V.arr 1 (List.map c_I s_.2)]]))), (4, Ob.mk 1 (some (Con.mk 28 2 false [[V.nil, V.int .i64 0]]))), (6, Ob.mk 1 (some (Con.mk 28 2 false [[V.ref 40 1, V.int .i64 p1]]))), (40, Ob.mk 1 (some (Con.mk 3 1 true (List.map c_I o402))))]⟩
def impl_PlaneOfCounts_l1_X0 (s_ : ((List (List Int)) × (List Int))) (counts : (List Int)) (p1 : Int) (t45 : Int) (x4 : (List Int)) (x5 : Int) (x6 : Int) (o402 : (List Int)) : St := ⟨mkSl 89 [(1, T.one (V.arr 1 (List.map c_I counts))), (2, T.one (V.ptr 2 1 0 0)), (4, T.one (V.ptr 4 1 0 0)), (5, T.one (V.bool false)), (6, T.one (V.ptr 6 1 0 0)), (9, T.one (V.int .i64 (w64 (x5 * x6)))), (43, T.one (V.arr 1 (List.map c_LI s_.1))), (44, T.one (V.int .i64 (ln c_LI s_.1))), (45, T.one (V.int .i64 t45))], [(2, Ob.mk 1 (some (Con.mk 31 2 false [[V.arr 1 (List.map c_LI s_.1), V.arr 1 (List.map c_I s_.2)]]))), (4, Ob.mk 1 (some (Con.mk 28 2 false [[V.nil, V.int .i64 0]]))), (6, Ob.mk 1 (some (Con.mk 28 2 false [[V.ref 40 1, V.int .i64 p1]]))), (40, Ob.mk 1 (some (Con.mk 3 1 true (List.map c_I o402))))]⟩
def impl_PlaneOfCounts_l1_G (s_ : ((List (List Int)) × (List Int))) (counts : (List Int)) (p1 : Int) (t45 : Int) (x4 : (List Int)) (x5 : Int) (x6 : Int) : ((List Int) × Int) ⊕ (List Int) → AExit × St
  | .inl s => (.normal, impl_PlaneOfCounts_l1_S s_ counts p1 t45 x4 x5 x6 s.1 s.2)
  | .inr d => ((.exit 2), impl_PlaneOfCounts_l1_X0 s_ counts p1 t45 x4 x5 x6 d)
noncomputable def impl_PlaneOfCounts_l1 (s_ : ((List (List Int)) × (List Int))) (counts : (List Int)) (p1 : Int) (t45 : Int) (x4 : (List Int)) (x5 : Int) (x6 : Int) (o402 : (List Int)) (t62 : Int) : Sc Try.prog (((List Int) × Int) ⊕ (List Int)) :=
  .go <|
  .brc (decide ((t62 : Int) < (ln c_I x4)))
  (get 1 c_I x4 t62 fun x7 =>
  .go <|
  idx c_I o402 t62 <|
  ld 4 c_I o402 (Int.toNat t62) fun x8 =>
  idx c_I o402 t62 <|
  upd 10 c_I o402 (Int.toNat t62) (fun _ => (w64 (x8 + (w64 ((w64 (x5 * x6)) * x7))))) fun x9 =>
  .go <|
  .go <|
  .ret [1, 2, 4, 5, 6, 9, 43, 44, 45, 60, 61, 62] [2, 4, 6, 40] (.inl ((List.set o402 (Int.toNat t62) (w64 (x8 + (w64 ((w64 (x5 * x6)) * x7))))), (w64 (t62 + 1)))))
  (.ret [1, 2, 4, 5, 6, 9, 43, 44, 45] [2, 4, 6, 40] (.inr o402))
noncomputable def m_impl_PlaneOfCounts_l1 (s_ : ((List (List Int)) × (List Int))) (counts : (List Int)) (p1 : Int) (t45 : Int) (x4 : (List Int)) (x5 : Int) (x6 : Int) (s : ((List Int) × Int)) : Option (List Int) := lrun (fun s => den (impl_PlaneOfCounts_l1 s_ counts p1 t45 x4 x5 x6 s.1 s.2)) s
theorem ok_impl_PlaneOfCounts_l1 (s_ : ((List (List Int)) × (List Int))) (counts : (List Int)) (p1 : Int) (t45 : Int) (x4 : (List Int)) (x5 : Int) (x6 : Int) (s : ((List Int) × Int)) (d : (List Int)) (h : m_impl_PlaneOfCounts_l1 s_ counts p1 t45 x4 x5 x6 s = some d) : ExecOK Try.prog (.loop (bodyOf Try.prog n_impl_PlaneOfCounts 1)) (impl_PlaneOfCounts_l1_S s_ counts p1 t45 x4 x5 x6 s.1 s.2) (impl_PlaneOfCounts_l1_G s_ counts p1 t45 x4 x5 x6 (.inr d)).1 (impl_PlaneOfCounts_l1_G s_ counts p1 t45 x4 x5 x6 (.inr d)).2 :=
  loopOK mixed (G := impl_PlaneOfCounts_l1_G s_ counts p1 t45 x4 x5 x6) (sc := fun s => impl_PlaneOfCounts_l1 s_ counts p1 t45 x4 x5 x6 s.1 s.2) (fun s => by kernel_rfl) (fun _ => rfl) (fun d => rfl) s d h
def impl_PlaneOfCounts_l0_S (s_ : ((List (List Int)) × (List Int))) (counts : (List Int)) (p1 : Int) (o40 : (List Int)) (t45 : Int) : St := ⟨mkSl 89 [(1, T.one (V.arr 1 (List.map c_I counts))), (2, T.one (V.ptr 2 1 0 0)), (4, T.one (V.ptr 4 1 0 0)), (5, T.one (V.bool false)), (6, T.one (V.ptr 6 1 0 0)), (43, T.one (V.arr 1 (List.map c_LI s_.1))), (44, T.one (V.int .i64 (ln c_LI s_.1))), (45, T.one (V.int .i64 t45))], [(2, Ob.mk 1 (some (Con.mk 31 2 false [[V.arr 1 (List.map c_LI s_.1), V.arr 1 (List.map c_I s_.2)]]))), (4, Ob.mk 1 (some (Con.mk 28 2 false [[V.nil, V.int .i64 0]]))), (6, Ob.mk 1 (some (Con.mk 28 2 false [[V.ref 40 1, V.int .i64 p1]]))), (40, Ob.mk 1 (some (Con.mk 3 1 true (List.map c_I o40))))]⟩
def impl_PlaneOfCounts_l0_X0 (s_ : ((List (List Int)) × (List Int))) (counts : (List Int)) (p1 : Int) (o40 : (List Int)) : St := ⟨mkSl 89 [(4, T.one (V.ptr 4 1 0 0)), (5, T.one (V.bool false)), (6, T.one (V.ptr 6 1 0 0))], [(4, Ob.mk 1 (some (Con.mk 28 2 false [[V.nil, V.int .i64 0]]))), (6, Ob.mk 1 (some (Con.mk 28 2 false [[V.ref 40 1, V.int .i64 p1]]))), (40, Ob.mk 1 (some (Con.mk 3 1 true (List.map c_I o40))))]⟩
def impl_PlaneOfCounts_l0_G (s_ : ((List (List Int)) × (List Int))) (counts : (List Int)) : (Int × (List Int) × Int) ⊕ (Int × (List Int)) → AExit × St
  | .inl s => (.normal, impl_PlaneOfCounts_l0_S s_ counts s.1 s.2.1 s.2.2)
  | .inr d => ((.exit 0), impl_PlaneOfCounts_l0_X0 s_ counts d.1 d.2)
noncomputable def impl_PlaneOfCounts_l0 (s_ : ((List (List Int)) × (List Int))) (counts : (List Int)) (p1 : Int) (o40 : (List Int)) (t45 : Int) : Sc Try.prog ((Int × (List Int) × Int) ⊕ (Int × (List Int))) :=
  .go <|
  .brc (decide ((t45 : Int) < (ln c_LI s_.1)))
  (get 1 c_LI s_.1 t45 fun x4 =>
  .go <|
  get 3 c_I s_.2 t45 fun x5 =>
  get 7 c_I counts t45 fun x6 =>
  .go <|
  .go <|
  lp (ok_impl_PlaneOfCounts_l1 s_ counts p1 t45 x4 x5 x6 (o40, 0)) [1, 2, 4, 5, 6, 9, 43, 44, 45, 60, 61, 62] [2, 4, 6, 40] fun x10 =>
  .go <|
  .go <|
  .ret [1, 2, 4, 5, 6, 43, 44, 45] [2, 4, 6, 40] (.inl ((w64 (p1 - (w64 (x5 * x6)))), x10, (w64 (t45 + 1)))))
  (.ret [4, 5, 6] [4, 6, 40] (.inr (p1, o40)))
noncomputable def m_impl_PlaneOfCounts_l0 (s_ : ((List (List Int)) × (List Int))) (counts : (List Int)) (s : (Int × (List Int) × Int)) : Option (Int × (List Int)) := lrun (fun s => den (impl_PlaneOfCounts_l0 s_ counts s.1 s.2.1 s.2.2)) s
theorem ok_impl_PlaneOfCounts_l0 (s_ : ((List (List Int)) × (List Int))) (counts : (List Int)) (s : (Int × (List Int) × Int)) (d : (Int × (List Int))) (h : m_impl_PlaneOfCounts_l0 s_ counts s = some d) : ExecOK Try.prog (.loop (bodyOf Try.prog n_impl_PlaneOfCounts 0)) (impl_PlaneOfCounts_l0_S s_ counts s.1 s.2.1 s.2.2) (impl_PlaneOfCounts_l0_G s_ counts (.inr d)).1 (impl_PlaneOfCounts_l0_G s_ counts (.inr d)).2 :=
  loopOK mixed (G := impl_PlaneOfCounts_l0_G s_ counts) (sc := fun s => impl_PlaneOfCounts_l0 s_ counts s.1 s.2.1 s.2.2) (fun s => by kernel_rfl) (fun _ => rfl) (fun d => rfl) s d h
noncomputable def s_impl_PlaneOfCounts (s_ : ((List (List Int)) × (List Int))) (counts : (List Int)) : Sc Try.prog (((List Int) × Int) × Bool) :=
  .go <|
  call 1 (ok_impl_IsSample s_) [] [] [] [] fun x1 =>
  .br 3 (!x1)
  (.go <|
  .brk true <|
  chs 0 (.wk (T.agg [V.arr 1 [], V.nil])) <|
  .go <|
  .ret [] [] (([], 0), false))
  (.br 9 (((ln c_LI s_.1) : Int) == 0)
  (.go <|
  .brk true <|
  chs 0 (.wk (T.agg [V.arr 1 [], V.nil])) <|
  .go <|
  .ret [] [] (([], 0), false))
  (.br 17 (((ln c_I counts) : Int) != (ln c_LI s_.1))
  (.go <|
  .brk true <|
  chs 0 (.wk (T.agg [V.arr 1 [], V.nil])) <|
  .go <|
  .ret [] [] (([], 0), false))
  (call 19 (ok_impl_allWithin counts 0 999) [] [] [] [] fun x2 =>
  .go <|
  .brc (!x2)
  (chs 0 (.wk (T.agg [V.arr 1 [], V.nil])) <|
  .go <|
  .ret [] [] (([], 0), false))
  (get 2 c_LI s_.1 0 fun x3 =>
  mk 5 c_I 8 (ln c_I x3) 0 <|
  .go <|
  .go <|
  lp (ok_impl_PlaneOfCounts_l0 s_ counts (0, (List.replicate (Int.toNat (ln c_I x3)) 0), 0)) [1, 2, 4, 5, 6, 43, 44, 45] [2, 4, 6, 40] fun x11 =>
  call 1 (ok_impl_IsPlane (x11.2, x11.1)) [] [40] [] [] fun x12 =>
  .go <|
  .brc (!x12)
  (chs 0 (.wk (T.agg [V.arr 1 [], V.nil])) <|
  .go <|
  .ret [] [] (([], 0), false))
  (.go <|
  .ret [40] [] ((x11.2, x11.1), true))))))
noncomputable def m_impl_PlaneOfCounts (s_ : ((List (List Int)) × (List Int))) (counts : (List Int)) : Option (((List Int) × Int) × Bool) := den (s_impl_PlaneOfCounts s_ counts)
theorem ok_impl_PlaneOfCounts (s_ : ((List (List Int)) × (List Int))) (counts : (List Int)) : ∀ r, m_impl_PlaneOfCounts s_ counts = some r → CallOK Try.prog n_impl_PlaneOfCounts [T.agg (c_P2_LLI_LI s_), T.one (V.arr 1 (List.map c_I counts))] [] (T.tup [T.agg (c_P2_LI_I r.1), T.one (V.bool r.2)]) [] :=
  fun r h => fnOK mixed (G := fun r => (T.tup [T.agg (c_P2_LI_I r.1), T.one (V.bool r.2)], [])) (by kernel_rfl) r h

end Go.Abs
