import Derived.Test.YtkjlebnmeimfnaaGxN
import Derived.Test.YtkjlebnmeimfnaaGx0
import Derived.Test.YtkjlebnmeimfnaaGx1
namespace Go.Abs
open Go.Proofs

noncomputable def s_spec_l1Cur_rounds3 (c_ : ((List Int) × Int × Int)) : Sc Try.prog (Int × ((List Int) × Int × Int)) :=
  .go <|
  chs 1 .tree <|
  call 3 (ok_spec_l1Cur_pick c_ 24) [] [] [1000] [] fun x1 =>
  need ((11 : Int) ≠ 0) <|
  slc 6 c_I ([3, 5, 2, 1, 8, 12, 0, 13] : List Int) 0 (w64 (6 + (w64 (Int.tdiv x1.1 11)))) <|
  call 7 (ok_spec_l1Cur_among x1.2 (List.drop (Int.toNat 0) (List.take (Int.toNat (w64 (6 + (w64 (Int.tdiv x1.1 11))))) ([3, 5, 2, 1, 8, 12, 0, 13] : List Int)))) [] [] [1000] [] fun x2 =>
  .go <|
  .ret [] [1000] x2
noncomputable def m_spec_l1Cur_rounds3 (c_ : ((List Int) × Int × Int)) : Option (Int × ((List Int) × Int × Int)) := den (s_spec_l1Cur_rounds3 c_)
theorem ok_spec_l1Cur_rounds3 (c_ : ((List Int) × Int × Int)) : ∀ r, m_spec_l1Cur_rounds3 c_ = some r → CallOK Try.prog n_spec_l1Cur_rounds3 [T.one (V.ptr 1000 1 0 0)] [Ob.mk 1 (some (Con.mk 91 3 false [c_P3_LY_I_U c_]))] (T.one (V.int .i64 r.1)) [Ob.mk 1 (some (Con.mk 91 3 false [c_P3_LY_I_U r.2]))] :=
  fun r h => fnOK mixed (G := fun r => (T.one (V.int .i64 r.1), [Ob.mk 1 (some (Con.mk 91 3 false [c_P3_LY_I_U r.2]))])) (by kernel_rfl) r h

noncomputable def s_spec_DrawRunPerceptron (code : (List Int)) : Sc Try.prog (((List (List Int)) × (List Int)) × Int) :=
  .go <|
  .go <|
  call 2 (ok_spec_l1Cur_space (code, 0, 0)) [] [] [7] [] fun x1 =>
  call 3 (ok_spec_l1Cur_someSample x1.2 x1.1 8) [] [] [7] [] fun x2 =>
  call 5 (ok_spec_l1Cur_rounds3 x2.2) [] [] [7] [] fun x3 =>
  .go <|
  .ret [] [] (x2.1, x3.1)
noncomputable def m_spec_DrawRunPerceptron (code : (List Int)) : Option (((List (List Int)) × (List Int)) × Int) := den (s_spec_DrawRunPerceptron code)
theorem ok_spec_DrawRunPerceptron (code : (List Int)) : ∀ r, m_spec_DrawRunPerceptron code = some r → CallOK Try.prog n_spec_DrawRunPerceptron [T.one (V.arr 1 (List.map c_Y code))] [] (T.tup [T.agg (c_P2_LLI_LI r.1), T.one (V.int .i64 r.2)]) [] :=
  fun r h => fnOK mixed (G := fun r => (T.tup [T.agg (c_P2_LLI_LI r.1), T.one (V.int .i64 r.2)], [])) (by kernel_rfl) r h

noncomputable def s_impl_within (n : Int) (low : Int) (high : Int) : Sc Try.prog (Bool) :=
  .go <|
  .br 3 (decide ((n : Int) ≥ low))
  (.go <|
  .ret [] [] (decide ((n : Int) ≤ high)))
  (.go <|
  .ret [] [] false)
noncomputable def m_impl_within (n : Int) (low : Int) (high : Int) : Option (Bool) := den (s_impl_within n low high)
theorem ok_impl_within (n : Int) (low : Int) (high : Int) : ∀ r, m_impl_within n low high = some r → CallOK Try.prog n_impl_within [T.one (V.int .i64 n), T.one (V.int .i64 low), T.one (V.int .i64 high)] [] (T.one (V.bool r)) [] :=
  fun r h => fnOK mixed (G := fun r => (T.one (V.bool r), [])) (by kernel_rfl) r h

def impl_allWithin_l0_S (list : (List Int)) (low : Int) (high : Int) (t11 : Int) : St := ⟨mkSl 21 [(1, T.one (V.int .i64 low)), (2, T.one (V.int .i64 high)), (6, T.one (V.bool false)), (9, T.one (V.arr 1 (List.map c_I list))), (10, T.one (V.int .i64 (ln c_I list))), (11, T.one (V.int .i64 t11))], []⟩
def impl_allWithin_l0_X0 (list : (List Int)) (low : Int) (high : Int) : St := ⟨mkSl 21 [(6, T.one (V.bool false))], []⟩
def impl_allWithin_l0_X1 (list : (List Int)) (low : Int) (high : Int) : St := ⟨mkSl 21 [(6, T.one (V.bool false))], []⟩
def impl_allWithin_l0_G (list : (List Int)) (low : Int) (high : Int) : Int ⊕ (Unit ⊕ Unit) → AExit × St
  | .inl s => (.normal, impl_allWithin_l0_S list low high s)
  | .inr (.inl d) => (.ret, impl_allWithin_l0_X0 list low high)
  | .inr (.inr d) => ((.exit 0), impl_allWithin_l0_X1 list low high)
noncomputable def impl_allWithin_l0 (list : (List Int)) (low : Int) (high : Int) (t11 : Int) : Sc Try.prog (Int ⊕ (Unit ⊕ Unit)) :=
  .go <|
  .brc (decide ((t11 : Int) < (ln c_I list)))
  (get 0 c_I list t11 fun x1 =>
  .go <|
  call 3 (ok_impl_within x1 low high) [] [] [] [] fun x2 =>
  .go <|
  .brc (!x2)
  (.go <|
  .ret [6] [] (.inr (.inl ())))
  (.go <|
  .ret [1, 2, 6, 9, 10, 11] [] (.inl (w64 (t11 + 1)))))
  (.ret [6] [] (.inr (.inr ())))
noncomputable def m_impl_allWithin_l0 (list : (List Int)) (low : Int) (high : Int) (s : Int) : Option (Unit ⊕ Unit) := lrun (fun s => den (impl_allWithin_l0 list low high s)) s
theorem ok_impl_allWithin_l0 (list : (List Int)) (low : Int) (high : Int) (s : Int) (d : (Unit ⊕ Unit)) (h : m_impl_allWithin_l0 list low high s = some d) : ExecOK Try.prog (.loop (bodyOf Try.prog n_impl_allWithin 0)) (impl_allWithin_l0_S list low high s) (impl_allWithin_l0_G list low high (.inr d)).1 (impl_allWithin_l0_G list low high (.inr d)).2 :=
  loopOK mixed (G := impl_allWithin_l0_G list low high) (sc := fun s => impl_allWithin_l0 list low high s) (fun s => by kernel_rfl) (fun _ => rfl) (fun d => by rcases d with d | d <;> rfl) s d h
noncomputable def s_impl_allWithin (list : (List Int)) (low : Int) (high : Int) : Sc Try.prog (Bool) :=
  .go <|
  .go <|
  lp2 (ok_impl_allWithin_l0 list low high 0) [1, 2, 6, 9, 10, 11] []
  (fun x3 =>
  .ret [] [] false)
  (fun x4 =>
  .go <|
  .ret [] [] true)
noncomputable def m_impl_allWithin (list : (List Int)) (low : Int) (high : Int) : Option (Bool) := den (s_impl_allWithin list low high)
theorem ok_impl_allWithin (list : (List Int)) (low : Int) (high : Int) : ∀ r, m_impl_allWithin list low high = some r → CallOK Try.prog n_impl_allWithin [T.one (V.arr 1 (List.map c_I list)), T.one (V.int .i64 low), T.one (V.int .i64 high)] [] (T.one (V.bool r)) [] :=
  fun r h => fnOK mixed (G := fun r => (T.one (V.bool r), [])) (by kernel_rfl) r h

noncomputable def s_impl_IsPoint (x_ : (List Int)) : Sc Try.prog (Bool) :=
  .go <|
  call 2 (ok_impl_within (ln c_I x_) 1 4) [] [] [] [] fun x1 =>
  .br 3 x1
  (call 5 (ok_impl_allWithin x_ (-9) 9) [] [] [] [] fun x2 =>
  .go <|
  .ret [] [] x2)
  (.go <|
  .ret [] [] false)
noncomputable def m_impl_IsPoint (x_ : (List Int)) : Option (Bool) := den (s_impl_IsPoint x_)
theorem ok_impl_IsPoint (x_ : (List Int)) : ∀ r, m_impl_IsPoint x_ = some r → CallOK Try.prog n_impl_IsPoint [T.one (V.arr 1 (List.map c_I x_))] [] (T.one (V.bool r)) [] :=
  fun r h => fnOK mixed (G := fun r => (T.one (V.bool r), [])) (by kernel_rfl) r h

noncomputable def s_impl_isLabel (label : Int) : Sc Try.prog (Bool) :=
  .go <|
  .br 2 ((label : Int) == 1)
  (.go <|
  .ret [] [] true)
  (.go <|
  .ret [] [] ((label : Int) == (-1)))
noncomputable def m_impl_isLabel (label : Int) : Option (Bool) := den (s_impl_isLabel label)
theorem ok_impl_isLabel (label : Int) : ∀ r, m_impl_isLabel label = some r → CallOK Try.prog n_impl_isLabel [T.one (V.int .i64 label)] [] (T.one (V.bool r)) [] :=
  fun r h => fnOK mixed (G := fun r => (T.one (V.bool r), [])) (by kernel_rfl) r h

def impl_IsSample_l0_S (s_ : ((List (List Int)) × (List Int))) (t21 : Int) : St := ⟨mkSl 49 [(1, T.one (V.ptr 1 1 0 0)), (2, T.one (V.bool false)), (19, T.one (V.arr 1 (List.map c_LI s_.1))), (20, T.one (V.int .i64 (ln c_LI s_.1))), (21, T.one (V.int .i64 t21))], [(1, Ob.mk 1 (some (Con.mk 31 2 false [[V.arr 1 (List.map c_LI s_.1), V.arr 1 (List.map c_I s_.2)]])))]⟩
def impl_IsSample_l0_X0 (s_ : ((List (List Int)) × (List Int))) : St := ⟨mkSl 49 [(2, T.one (V.bool false))], []⟩
def impl_IsSample_l0_X1 (s_ : ((List (List Int)) × (List Int))) : St := ⟨mkSl 49 [(2, T.one (V.bool false))], []⟩
def impl_IsSample_l0_G (s_ : ((List (List Int)) × (List Int))) : Int ⊕ (Unit ⊕ Unit) → AExit × St
  | .inl s => (.normal, impl_IsSample_l0_S s_ s)
  | .inr (.inl d) => (.ret, impl_IsSample_l0_X0 s_)
  | .inr (.inr d) => ((.exit 0), impl_IsSample_l0_X1 s_)
noncomputable def impl_IsSample_l0 (s_ : ((List (List Int)) × (List Int))) (t21 : Int) : Sc Try.prog (Int ⊕ (Unit ⊕ Unit)) :=
  .go <|
  .brc (decide ((t21 : Int) < (ln c_LI s_.1)))
  (get 1 c_LI s_.1 t21 fun x1 =>
  .go <|
  call 1 (ok_impl_IsPoint x1) [] [] [] [] fun x2 =>
  .br 3 (!x2)
  (.go <|
  .brk true <|
  .go <|
  .ret [2] [] (.inr (.inl ())))
  (get 8 c_LI s_.1 0 fun x3 =>
  .br 13 (((ln c_I x1) : Int) != (ln c_I x3))
  (.go <|
  .brk true <|
  .go <|
  .ret [2] [] (.inr (.inl ())))
  (get 17 c_I s_.2 t21 fun x4 =>
  call 19 (ok_impl_isLabel x4) [] [] [] [] fun x5 =>
  .go <|
  .brc (!x5)
  (.go <|
  .ret [2] [] (.inr (.inl ())))
  (.go <|
  .ret [1, 2, 19, 20, 21] [1] (.inl (w64 (t21 + 1)))))))
  (.ret [2] [] (.inr (.inr ())))
noncomputable def m_impl_IsSample_l0 (s_ : ((List (List Int)) × (List Int))) (s : Int) : Option (Unit ⊕ Unit) := lrun (fun s => den (impl_IsSample_l0 s_ s)) s
theorem ok_impl_IsSample_l0 (s_ : ((List (List Int)) × (List Int))) (s : Int) (d : (Unit ⊕ Unit)) (h : m_impl_IsSample_l0 s_ s = some d) : ExecOK Try.prog (.loop (bodyOf Try.prog n_impl_IsSample 0)) (impl_IsSample_l0_S s_ s) (impl_IsSample_l0_G s_ (.inr d)).1 (impl_IsSample_l0_G s_ (.inr d)).2 :=
  loopOK mixed (G := impl_IsSample_l0_G s_) (sc := fun s => impl_IsSample_l0 s_ s) (fun s => by kernel_rfl) (fun _ => rfl) (fun d => by rcases d with d | d <;> rfl) s d h
noncomputable def s_impl_IsSample (s_ : ((List (List Int)) × (List Int))) : Sc Try.prog (Bool) :=
  .go <|
  .br 4 (decide (((ln c_LI s_.1) : Int) > 16))
  (.go <|
  .brk true <|
  .go <|
  .ret [] [] false)
  (.go <|
  .brc (((ln c_I s_.2) : Int) != (ln c_LI s_.1))
  (.go <|
  .ret [] [] false)
  (.go <|
  lp2 (ok_impl_IsSample_l0 s_ 0) [1, 2, 19, 20, 21] [1]
  (fun x6 =>
  .ret [] [] false)
  (fun x7 =>
  .go <|
  .ret [] [] true)))
noncomputable def m_impl_IsSample (s_ : ((List (List Int)) × (List Int))) : Option (Bool) := den (s_impl_IsSample s_)
theorem ok_impl_IsSample (s_ : ((List (List Int)) × (List Int))) : ∀ r, m_impl_IsSample s_ = some r → CallOK Try.prog n_impl_IsSample [T.agg (c_P2_LLI_LI s_)] [] (T.one (V.bool r)) [] :=
  fun r h => fnOK mixed (G := fun r => (T.one (V.bool r), [])) (by kernel_rfl) r h

def impl_product_l0_S (a : (List Int)) (b : (List Int)) (sum : Int) (t10 : Int) : St := ⟨mkSl 25 [(1, T.one (V.arr 1 (List.map c_I b))), (4, T.one (V.int .i64 0)), (5, T.one (V.int .i64 sum)), (8, T.one (V.arr 1 (List.map c_I a))), (9, T.one (V.int .i64 (ln c_I a))), (10, T.one (V.int .i64 t10))], []⟩
def impl_product_l0_X0 (a : (List Int)) (b : (List Int)) (sum : Int) : St := ⟨mkSl 25 [(4, T.one (V.int .i64 0)), (5, T.one (V.int .i64 sum))], []⟩
def impl_product_l0_G (a : (List Int)) (b : (List Int)) : (Int × Int) ⊕ Int → AExit × St
  | .inl s => (.normal, impl_product_l0_S a b s.1 s.2)
  | .inr d => ((.exit 0), impl_product_l0_X0 a b d)
noncomputable def impl_product_l0 (a : (List Int)) (b : (List Int)) (sum : Int) (t10 : Int) : Sc Try.prog ((Int × Int) ⊕ Int) :=
  .go <|
  .brc (decide ((t10 : Int) < (ln c_I a)))
  (get 1 c_I a t10 fun x1 =>
  .go <|
  get 4 c_I b t10 fun x2 =>
  .go <|
  .go <|
  .ret [1, 4, 5, 8, 9, 10] [] (.inl ((w64 (sum + (w64 (x1 * x2)))), (w64 (t10 + 1)))))
  (.ret [4, 5] [] (.inr sum))
noncomputable def m_impl_product_l0 (a : (List Int)) (b : (List Int)) (s : (Int × Int)) : Option Int := lrun (fun s => den (impl_product_l0 a b s.1 s.2)) s
theorem ok_impl_product_l0 (a : (List Int)) (b : (List Int)) (s : (Int × Int)) (d : Int) (h : m_impl_product_l0 a b s = some d) : ExecOK Try.prog (.loop (bodyOf Try.prog n_impl_product 0)) (impl_product_l0_S a b s.1 s.2) (impl_product_l0_G a b (.inr d)).1 (impl_product_l0_G a b (.inr d)).2 :=
  loopOK mixed (G := impl_product_l0_G a b) (sc := fun s => impl_product_l0 a b s.1 s.2) (fun s => by kernel_rfl) (fun _ => rfl) (fun d => rfl) s d h
noncomputable def s_impl_product (a : (List Int)) (b : (List Int)) : Sc Try.prog (Int) :=
  .go <|
  .go <|
  .go <|
  lp (ok_impl_product_l0 a b (0, 0)) [1, 4, 5, 8, 9, 10] [] fun x3 =>
  .go <|
  .ret [] [] x3
noncomputable def m_impl_product (a : (List Int)) (b : (List Int)) : Option (Int) := den (s_impl_product a b)
theorem ok_impl_product (a : (List Int)) (b : (List Int)) : ∀ r, m_impl_product a b = some r → CallOK Try.prog n_impl_product [T.one (V.arr 1 (List.map c_I a)), T.one (V.arr 1 (List.map c_I b))] [] (T.one (V.int .i64 r)) [] :=
  fun r h => fnOK mixed (G := fun r => (T.one (V.int .i64 r), [])) (by kernel_rfl) r h

noncomputable def s_impl_Plane_side (p : ((List Int) × Int)) (x_ : (List Int)) : Sc Try.prog (Int) :=
  .go <|
  call 3 (ok_impl_product p.1 x_) [] [] [] [] fun x1 =>
  .go <|
  .brc (decide ((x1 : Int) ≥ p.2))
  (.go <|
  .ret [] [] 1)
  (.go <|
  .ret [] [] (-1))
noncomputable def m_impl_Plane_side (p : ((List Int) × Int)) (x_ : (List Int)) : Option (Int) := den (s_impl_Plane_side p x_)
theorem ok_impl_Plane_side (p : ((List Int) × Int)) (x_ : (List Int)) : ∀ r, m_impl_Plane_side p x_ = some r → CallOK Try.prog n_impl_Plane_side [T.agg (c_P2_LI_I p), T.one (V.arr 1 (List.map c_I x_))] [] (T.one (V.int .i64 r)) [] :=
  fun r h => fnOK mixed (G := fun r => (T.one (V.int .i64 r), [])) (by kernel_rfl) r h

noncomputable def s_impl_copied (list : (List Int)) : Sc Try.prog ((List Int)) :=
  chs 0 (.own [(0, 900, 3, 1)]) <|
  .go <|
  app 2 c_I 8 [] list <|
  .go <|
  .ret [3] [] list
noncomputable def m_impl_copied (list : (List Int)) : Option ((List Int)) := den (s_impl_copied list)
theorem ok_impl_copied (list : (List Int)) : ∀ r, m_impl_copied list = some r → CallOK Try.prog n_impl_copied [T.one (V.arr 1 (List.map c_I list))] [] (T.one (V.arr 1 (List.map c_I r))) [] :=
  fun r h => fnOK mixed (G := fun r => (T.one (V.arr 1 (List.map c_I r)), [])) (by kernel_rfl) r h

noncomputable def s_impl_copied_o0 (list : (List Int)) : Sc Try.prog ((List Int)) :=
  chs 0 (.own [(0, 900, 3, 1)]) <|
  .go <|
  app 2 c_I 8 [] list <|
  .go <|
  .ret [] [3] list
noncomputable def m_impl_copied_o0 (list : (List Int)) : Option ((List Int)) := den (s_impl_copied_o0 list)
theorem ok_impl_copied_o0 (list : (List Int)) : ∀ r, m_impl_copied_o0 list = some r → CallOK Try.prog n_impl_copied [T.one (V.arr 1 (List.map c_I list))] [] (T.one (V.ref 1000 1)) [Ob.mk 1 (some (Con.mk 3 1 true (List.map c_I r)))] :=
  fun r h => fnOK mixed (G := fun r => (T.one (V.ref 1000 1), [Ob.mk 1 (some (Con.mk 3 1 true (List.map c_I r)))])) (by kernel_rfl) r h

def impl_Plane_step_l0_S (p : ((List Int) × Int)) (x_ : (List Int)) (label : Int) (o19 : (List Int)) (t27 : Int) : St := ⟨mkSl 44 [(2, T.one (V.int .i64 label)), (6, T.one (V.ptr 6 1 0 0)), (7, T.one (V.bool false)), (8, T.one (V.ptr 8 1 0 0)), (25, T.one (V.arr 1 (List.map c_I x_))), (26, T.one (V.int .i64 (ln c_I x_))), (27, T.one (V.int .i64 t27))], [(6, Ob.mk 1 (some (Con.mk 28 2 false [[V.nil, V.int .i64 0]]))), (8, Ob.mk 1 (some (Con.mk 28 2 false [[V.ref 19 1, V.int .i64 (w64 (p.2 - label))]]))), (19, Ob.mk 1 (some (Con.mk 3 1 true (List.map c_I o19))))]⟩
def impl_Plane_step_l0_X0 (p : ((List Int) × Int)) (x_ : (List Int)) (label : Int) (o19 : (List Int)) : St := ⟨mkSl 44 [(6, T.one (V.ptr 6 1 0 0)), (7, T.one (V.bool false)), (8, T.one (V.ptr 8 1 0 0))], [(6, Ob.mk 1 (some (Con.mk 28 2 false [[V.nil, V.int .i64 0]]))), (8, Ob.mk 1 (some (Con.mk 28 2 false [[V.ref 19 1, V.int .i64 (w64 (p.2 - label))]]))), (19, Ob.mk 1 (some (Con.mk 3 1 true (List.map c_I o19))))]⟩
def impl_Plane_step_l0_G (p : ((List Int) × Int)) (x_ : (List Int)) (label : Int) : ((List Int) × Int) ⊕ (List Int) → AExit × St
  | .inl s => (.normal, impl_Plane_step_l0_S p x_ label s.1 s.2)
  | .inr d => ((.exit 0), impl_Plane_step_l0_X0 p x_ label d)
noncomputable def impl_Plane_step_l0 (p : ((List Int) × Int)) (x_ : (List Int)) (label : Int) (o19 : (List Int)) (t27 : Int) : Sc Try.prog (((List Int) × Int) ⊕ (List Int)) :=
  .go <|
  .brc (decide ((t27 : Int) < (ln c_I x_)))
  (get 1 c_I x_ t27 fun x3 =>
  .go <|
  idx c_I o19 t27 <|
  ld 4 c_I o19 (Int.toNat t27) fun x4 =>
  idx c_I o19 t27 <|
  upd 10 c_I o19 (Int.toNat t27) (fun _ => (w64 (x4 + (w64 (label * x3))))) fun x5 =>
  .go <|
  .go <|
  .ret [2, 6, 7, 8, 25, 26, 27] [6, 8, 19] (.inl ((List.set o19 (Int.toNat t27) (w64 (x4 + (w64 (label * x3))))), (w64 (t27 + 1)))))
  (.ret [6, 7, 8] [6, 8, 19] (.inr o19))
noncomputable def m_impl_Plane_step_l0 (p : ((List Int) × Int)) (x_ : (List Int)) (label : Int) (s : ((List Int) × Int)) : Option (List Int) := lrun (fun s => den (impl_Plane_step_l0 p x_ label s.1 s.2)) s
theorem ok_impl_Plane_step_l0 (p : ((List Int) × Int)) (x_ : (List Int)) (label : Int) (s : ((List Int) × Int)) (d : (List Int)) (h : m_impl_Plane_step_l0 p x_ label s = some d) : ExecOK Try.prog (.loop (bodyOf Try.prog n_impl_Plane_step 0)) (impl_Plane_step_l0_S p x_ label s.1 s.2) (impl_Plane_step_l0_G p x_ label (.inr d)).1 (impl_Plane_step_l0_G p x_ label (.inr d)).2 :=
  loopOK mixed (G := impl_Plane_step_l0_G p x_ label) (sc := fun s => impl_Plane_step_l0 p x_ label s.1 s.2) (fun s => by kernel_rfl) (fun _ => rfl) (fun d => rfl) s d h
noncomputable def s_impl_Plane_step (p : ((List Int) × Int)) (x_ : (List Int)) (label : Int) : Sc Try.prog (((List Int) × Int) × Bool) :=
  .go <|
  call 2 (ok_impl_Plane_side p x_) [] [] [] [] fun x1 =>
  .go <|
  .brc ((x1 : Int) == label)
  (.go <|
  .ret [] [] (p, false))
  (call 2 (ok_impl_copied_o0 p.1) [] [] [] [19] fun x2 =>
  .go <|
  .go <|
  lp (ok_impl_Plane_step_l0 p x_ label (x2, 0)) [2, 6, 7, 8, 25, 26, 27] [6, 8, 19] fun x6 =>
  .go <|
  .ret [19] [] ((x6, (w64 (p.2 - label))), true))
noncomputable def m_impl_Plane_step (p : ((List Int) × Int)) (x_ : (List Int)) (label : Int) : Option (((List Int) × Int) × Bool) := den (s_impl_Plane_step p x_ label)
theorem ok_impl_Plane_step (p : ((List Int) × Int)) (x_ : (List Int)) (label : Int) : ∀ r, m_impl_Plane_step p x_ label = some r → CallOK Try.prog n_impl_Plane_step [T.agg (c_P2_LI_I p), T.one (V.arr 1 (List.map c_I x_)), T.one (V.int .i64 label)] [] (T.tup [T.agg (c_P2_LI_I r.1), T.one (V.bool r.2)]) [] :=
  fun r h => fnOK mixed (G := fun r => (T.tup [T.agg (c_P2_LI_I r.1), T.one (V.bool r.2)], [])) (by kernel_rfl) r h

noncomputable def s_impl_IsPlane (p : ((List Int) × Int)) : Sc Try.prog (Bool) :=
  .go <|
  call 3 (ok_impl_within (ln c_I p.1) 1 4) [] [] [] [] fun x1 =>
  .br 4 x1
  (call 7 (ok_impl_allWithin p.1 (-99) 99) [] [] [] [] fun x2 =>
  .br 9 x2
  (call 12 (ok_impl_within p.2 (-99) 99) [] [] [] [] fun x3 =>
  .go <|
  .ret [] [] x3)
  (.go <|
  .ret [] [] false))
  (.go <|
  .ret [] [] false)
noncomputable def m_impl_IsPlane (p : ((List Int) × Int)) : Option (Bool) := den (s_impl_IsPlane p)
theorem ok_impl_IsPlane (p : ((List Int) × Int)) : ∀ r, m_impl_IsPlane p = some r → CallOK Try.prog n_impl_IsPlane [T.agg (c_P2_LI_I p)] [] (T.one (V.bool r)) [] :=
  fun r h => fnOK mixed (G := fun r => (T.one (V.bool r), [])) (by kernel_rfl) r h

end Go.Abs
