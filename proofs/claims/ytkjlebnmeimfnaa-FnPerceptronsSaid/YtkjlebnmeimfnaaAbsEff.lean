import Derived.Test.YtkjlebnmeimfnaaAbsStore
namespace Go.Abs

section
variable {P : Program} {o : Oper} {a : Act} {w : World} {own : Nat → Own} {obl : Obs} {rd : Nat → T} {ob : Nat → Option Ob} {ch : Ch} {e : Eff}

/-- tops, one by one -/
inductive RepTT (R : V → Value → Prop) : List T → List Value → Prop where
  | nil : RepTT R [] []
  | cons {x u xs us} : RepT R x u → RepTT R xs us → RepTT R (x :: xs) (u :: us)

theorem rdAll_rep (hR : ∀ t, RepT (RepV w own obl) (rd t) (a.tmps.getD t undef)) : ∀ {l : List Operand} {ts : List T}, rdAll rd l = some ts → RepTT (RepV w own obl) ts (l.map a.eval)
  | [], ts, h => by simp [rdAll] at h; subst h; exact .nil
  | x :: l, ts, h => by
    simp only [rdAll] at h
    split at h
    · rename_i t l' hx hl
      injection h with h; subst h
      exact .cons (rdO_rep hR hx) (rdAll_rep hR hl)
    · cases h

theorem map_arr (l : Array Operand) (f : Operand → Value) : l.map f = (l.toList.map f).toArray := by
  rw [← Array.toList_map]

theorem ints_rep {k : IntKind} : ∀ {ts : List T} {us : List Value} {ns : List Int}, RepTT (RepV w own obl) ts us → intsOf k ts = some ns → us = ns.map (Value.int k)
  | [], us, ns, h, hn => by cases h; simp [intsOf] at hn; subst hn; rfl
  | t :: ts, us, ns, h, hn => by
    cases h with
    | cons h1 h2 =>
    unfold intsOf at hn
    split at hn
    · rename_i hh; cases hh
    · rename_i k' n r hh
      injection hh with hh1 hh2
      subst hh1 hh2
      split at hn
      · rename_i hk hl
        have hk : k = k' := by simpa using hk
        subst hk
        injection hn with hn; subst hn
        rw [rep_int (obl := obl) h1, ints_rep h2 hl]
        rfl
      · cases hn
    · cases hn

theorem max_fold (k : IntKind) : ∀ (l : List Int) (x : Int), (List.foldlM Builtin.max2 (Value.int k x) (l.map (Value.int k))).run P w = .ok (.int k (maxOf x l)) w
  | [], x => by simp [maxOf]
  | y :: l, x => by
    simp only [List.map_cons, List.foldlM_cons, Builtin.max2, Sem.run_bind, Sem.run_pure, Result.andThen_ok, maxOf]
    rw [show (if y > x then y else x) = max x y by split <;> omega]
    exact max_fold k l _
theorem min_fold (k : IntKind) : ∀ (l : List Int) (x : Int), (List.foldlM Builtin.min2 (Value.int k x) (l.map (Value.int k))).run P w = .ok (.int k (minOf x l)) w
  | [], x => by simp [minOf]
  | y :: l, x => by
    simp only [List.map_cons, List.foldlM_cons, Builtin.min2, Sem.run_bind, Sem.run_pure, Result.andThen_ok, minOf]
    rw [show (if y < x then y else x) = min x y by split <;> omega]
    exact min_fold k l _

theorem out_builtin (H : HR w own obl) (hR : ∀ t, RepT (RepV w own obl) (rd t) (a.tmps.getD t undef)) (hob : ∀ s o', ob s = some o' → lk obl s = o') {c : Call} {b : Builtin} {d : Nat} (ho : o.op = .call c) (hc : c.callee = .builtin b)
    (he : ((rdAll rd c.args.toList).bind fun l => effBuiltin P ob d b c.argTypes.toList l) = some e) (hp : ∀ p ∈ e.obs, p) : Out P o a w own obl e := by
  obtain ⟨l, hl, he⟩ := Option.bind_eq_some_iff.1 he
  have hall := rdAll_rep hR hl
  have hmap := map_arr c.args a.eval
  generalize hus : c.args.toList.map a.eval = us at hall hmap
  unfold effBuiltin at he
  split at he
  · rename_i t x hts _
    obtain ⟨n, hn, he⟩ := Option.bind_eq_some_iff.1 he
    injection he with he; subst he
    cases hall with
    | cons hr h2 =>
    cases h2
    have hts' : c.argTypes = #[t] := by rw [← Array.toArray_toList (xs := c.argTypes), hts]
    refine out_pure H (v := .int .i64 n) ?_ (.int _ _)
    simp only [execOp, ho, resolve, hc, invoke, builtin, Sem.run_bind, Sem.run_pure, Result.andThen_ok, hmap, hts', len_run (w := w) (own := own) (P := P) hob hr hn]
  · rename_i t t' s x hts _
    cases hall with
    | cons h1 h2 =>
    cases h2 with
    | cons h2 h3 =>
    cases h3
    have hts' : c.argTypes = #[t, t'] := by rw [← Array.toArray_toList (xs := c.argTypes), hts]
    exact out_append H hob ho hc hts' hmap h1 h2 he hp
  · rename_i k x r _
    obtain ⟨ns, hns, he⟩ := Option.bind_eq_some_iff.1 he
    injection he with he; subst he
    cases hall with
    | cons h1 h2 =>
    rw [rep_int (obl := obl) h1, ints_rep h2 hns] at hmap
    refine out_pure H (v := .int k (maxOf x ns)) ?_ (.int _ _)
    simp only [execOp, ho, resolve, hc, invoke, builtin, Sem.run_bind, Sem.run_pure, Result.andThen_ok, hmap, Builtin.max_, max_fold (P := P)]
  · rename_i k x r _
    obtain ⟨ns, hns, he⟩ := Option.bind_eq_some_iff.1 he
    injection he with he; subst he
    cases hall with
    | cons h1 h2 =>
    rw [rep_int (obl := obl) h1, ints_rep h2 hns] at hmap
    refine out_pure H (v := .int k (minOf x ns)) ?_ (.int _ _)
    simp only [execOp, ho, resolve, hc, invoke, builtin, Sem.run_bind, Sem.run_pure, Result.andThen_ok, hmap, Builtin.min_, min_fold (P := P)]
  · cases he

theorem eff_sound (H : HR w own obl) (hR : ∀ t, RepT (RepV w own obl) (rd t) (a.tmps.getD t undef)) (hob : ∀ s o', ob s = some o' → lk obl s = o') (he : eff P o rd ob ch = some e) (hp : ∀ p ∈ e.obs, p) : Out P o a w own obl e := by
  unfold eff at he
  cases hop : o.op <;> simp only [hop, reduceCtorEq] at he
  case move x => exact out_move H hR (.inl hop) he hp
  case assign x => exact out_move H hR (.inr hop) he hp
  case pick c x y => exact out_pick H hR hop he
  case nilCheck x => exact out_nilCheck H hR hob hop he
  case alloc t => exact out_alloc H hob hop he
  case box t x => exact out_box H hR hob hop he
  case build t parts => exact out_build H hR hop he
  case buildSlice t len parts => exact out_buildSlice H hR hob hop he
  case load t x => exact out_load H hR hob hop he hp
  case store t x y => exact out_store H hR hob hop he hp
  case binOp op t x y t' => exact out_bin H hR hop he hp
  case unOp op t x => exact out_un H hR hop he
  case convert src dst x => exact out_convert H hR hop he
  case makeSlice t l c => exact out_makeSlice H hR hob hop he hp
  case slice t x lo hi mx => exact out_slice H hR hop he hp
  case fieldAddr t x f => exact out_fieldAddr H hR hob hop he
  case field t x f => exact out_field H hR hop he
  case indexAddr t x i => exact out_indexAddr H hR hob hop he hp
  case index t x i => exact out_index H hR hop he hp
  case extract x n => exact out_extract H hR hop he
  case call c =>
    cases hc : c.callee <;> simp only [hc, reduceCtorEq] at he
    case builtin b => exact out_builtin H hR hob hop hc he hp

end
end Go.Abs
