import Derived.Test.YtkjlebnmeimfnaaAbsRep
namespace Go.Abs

def Out (P : Program) (o : Oper) (a : Act) (w : World) (own : Nat → Own) (obl : Obs) (e : Eff) : Prop :=
  ∃ v w' own', ((execOp a.eval o).run P w = .ok (.value v) w' ∨ ((execOp a.eval o).run P w = .ok .skip w' ∧ v = undef)) ∧
    Trans w own obl w' own' (ups obl e.wo) ∧ HR w' own' (ups obl e.wo) ∧ Keep w own w' own' ∧ RepT (RepV w' own' (ups obl e.wo)) e.dst v

section
variable {P : Program} {o : Oper} {a : Act} {w : World} {own : Nat → Own} {obl : Obs} {rd : Nat → T} {ob : Nat → Option Ob} {ch : Ch} {e : Eff}

theorem out_pure {t : T} {p : List Prop} {v : Value} (H : HR w own obl) (hr : (execOp a.eval o).run P w = .ok (.value v) w) (ht : RepT (RepV w own obl) t v) : Out P o a w own obl ⟨t, [], p⟩ :=
  ⟨v, w, own, .inl hr, Trans.refl _ _ _, H, Keep.refl _ _, ht⟩

theorem ofVal_rep {x : V} {v : Value} (h : V.ofVal v = some x) : RepV w own obl x v := by
  unfold V.ofVal at h
  split at h
  · injection h with h; subst h; exact .int _ _
  · injection h with h; subst h; exact .bool _
  · injection h with h; subst h; exact .str _
  · rename_i n m
    split at h
    · rename_i hn
      injection h with h; subst h
      simp at hn
      obtain ⟨rfl, rfl⟩ := hn
      exact .nil
    · cases h
  · rename_i f x y
    split at h
    · rename_i hx hy
      injection h with h; subst h
      have e1 : x = #[] := by simpa using hx
      have e2 : y = #[] := by simpa using hy
      subst e1 e2
      exact ⟨rfl, rfl⟩
    · cases h
  · cases h

theorem ofVals_rep : ∀ {vs : List Value} {xs : List V}, ofVals vs = some xs → RepL (RepV w own obl) xs vs
  | [], xs, h => by simp [ofVals] at h; subst h; exact .nil
  | v :: r, xs, h => by
    simp only [ofVals] at h
    split at h
    · rename_i x l h1 h2
      injection h with h; subst h
      exact .cons (ofVal_rep h1) (ofVals_rep h2)
    · cases h

theorem TofVal_rep {t : T} {v : Value} (h : T.ofVal v = some t) : RepT (RepV w own obl) t v := by
  unfold T.ofVal at h
  split at h
  · rename_i cs
    split at h
    · rename_i l hl
      injection h with h; subst h
      exact ⟨cs.toList, by simp, ofVals_rep hl⟩
    · cases h
  · split at h
    · rename_i x hx
      injection h with h; subst h
      exact ofVal_rep hx
    · cases h

theorem rdO_rep (hR : ∀ t, RepT (RepV w own obl) (rd t) (a.tmps.getD t undef)) {x : Operand} {t : T} (h : rdO rd x = some t) : RepT (RepV w own obl) t (a.eval x) := by
  cases x with
  | tmp u => simp only [rdO, Option.some.injEq] at h; subst h; exact hR u
  | const v => exact TofVal_rep h
  | func f => simp only [rdO, Option.some.injEq] at h; subst h; exact ⟨rfl, rfl⟩
  | global g => simp [rdO] at h

theorem live_lk (hob : ∀ s o', ob s = some o' → lk obl s = o') {s v : Nat} {c : Con} (h : liveOb ob s v = some c) : lk obl s = ⟨v, some c⟩ := by
  unfold liveOb at h
  split at h
  · rename_i v' c' hs
    split at h
    · rename_i hv
      injection h with h; subst h
      have : v' = v := by simpa using hv
      subst this
      exact hob _ _ hs
    · cases h
  · cases h

theorem rep_int {k n u} (h : RepV w own obl (.int k n) u) : u = .int k n := by cases h; rfl
theorem rep_bool {b u} (h : RepV w own obl (.bool b) u) : u = .bool b := by cases h; rfl
theorem rep_str {b u} (h : RepV w own obl (.str b) u) : u = .string b := by cases h; rfl
theorem rep_nil {u} (h : RepV w own obl .nil u) : u = .slice none 0 0 := by cases h; rfl

/-! move, assign, pick, nilCheck -/
theorem out_move (H : HR w own obl) (hR : ∀ t, RepT (RepV w own obl) (rd t) (a.tmps.getD t undef)) {x : Operand} (ho : o.op = .move x ∨ o.op = .assign x)
    (he : (match rdO rd x, ch with
      | some (.one (.bool b)), .br c => some (⟨.one (.bool c), [], [b = c]⟩ : Eff)
      | some t, _ => ret t
      | none, _ => none) = some e) (hp : ∀ p ∈ e.obs, p) : Out P o a w own obl e := by
  have hrun : (execOp a.eval o).run P w = .ok (.value (a.eval x)) w := by
    rcases ho with ho | ho <;> simp only [execOp, ho] <;> rfl
  split at he
  · rename_i b c hx
    injection he with he; subst he
    have := rdO_rep hR hx
    have hb : b = c := hp _ (by simp)
    subst hb
    exact out_pure H hrun this
  · rename_i t _ hx
    injection he with he; subst he
    exact out_pure H hrun (rdO_rep hR ‹_›)
  · cases he

theorem out_pick (H : HR w own obl) (hR : ∀ t, RepT (RepV w own obl) (rd t) (a.tmps.getD t undef)) {c x y : Operand} (ho : o.op = .pick c x y)
    (he : (match rdO rd c with
      | some (.one (.bool true)) => (rdO rd x).bind ret
      | some (.one (.bool false)) => (rdO rd y).bind ret
      | _ => none) = some e) : Out P o a w own obl e := by
  split at he
  · rename_i hc
    have hcv := rep_bool (obl := obl) (rdO_rep hR hc)
    obtain ⟨t, hx, he⟩ := Option.bind_eq_some_iff.1 he
    injection he with he; subst he
    refine out_pure H ?_ (rdO_rep hR hx)
    simp only [execOp, ho]; simp [hcv, asBool]
  · rename_i hc
    have hcv := rep_bool (obl := obl) (rdO_rep hR hc)
    obtain ⟨t, hx, he⟩ := Option.bind_eq_some_iff.1 he
    injection he with he; subst he
    refine out_pure H ?_ (rdO_rep hR hx)
    simp only [execOp, ho]; simp [hcv, asBool]
  · cases he

theorem out_nilCheck (H : HR w own obl) (hR : ∀ t, RepT (RepV w own obl) (rd t) (a.tmps.getD t undef)) (hob : ∀ s o', ob s = some o' → lk obl s = o') {x : Operand} (ho : o.op = .nilCheck x)
    (he : (match rdO rd x with
    | some (.one (.ptr s v i off)) => match liveOb ob s v with
      | some _ => ret (.one (.ptr s v i off))
      | none => none
    | _ => none) = some e) : Out P o a w own obl e := by
  split at he
  · rename_i s v i off hx
    split at he
    · rename_i c hl
      injection he with he; subst he
      have hr := rdO_rep hR hx
      obtain ⟨b, hb, _⟩ := hr.2.2 c (live_lk hob hl)
      refine out_pure H ?_ hr
      simp only [execOp, ho]; simp [hb]
    · cases he
  · cases he

/-! arithmetic -/
theorem binInt_run {op : BinOp} {k k' : IntKind} {x y : Int} {v : V} {p : List Prop} (h : binInt op k x y = some (v, p)) (hp : ∀ q ∈ p, q)
    (hk : op = .shl ∨ op = .shr ∨ k = k') (t : TypeId) : ∃ u, (binOp op t (.int k x) (.int k' y)).run P w = .ok u w ∧ RepV w own obl v u := by
  cases op <;> simp only [binInt, Option.some.injEq, Prod.mk.injEq, reduceCtorEq] at h
  case quo =>
    obtain ⟨rfl, rfl⟩ := h
    have hy : y ≠ 0 := hp _ (by simp)
    have hk' : k = k' := by simpa using hk
    subst hk'
    exact ⟨_, by simp [binOp, Op.intDiv, hy], .int _ _⟩
  case rem =>
    obtain ⟨rfl, rfl⟩ := h
    have hy : y ≠ 0 := hp _ (by simp)
    have hk' : k = k' := by simpa using hk
    subst hk'
    exact ⟨_, by simp [binOp, Op.intDiv, hy], .int _ _⟩
  case shl =>
    obtain ⟨rfl, rfl⟩ := h
    have hy : 0 ≤ y := hp _ (by simp)
    have hy' : ¬ y < 0 := by omega
    exact ⟨_, by simp [binOp, Op.shift, hy'], .int _ _⟩
  case shr =>
    obtain ⟨rfl, rfl⟩ := h
    have hy : 0 ≤ y := hp _ (by simp)
    have hy' : ¬ y < 0 := by omega
    exact ⟨_, by simp [binOp, Op.shift, hy'], .int _ _⟩
  all_goals
    obtain ⟨rfl, rfl⟩ := h
    have hk' : k = k' := by simpa using hk
    subst hk'
  case and => exact ⟨.int k (k.wrap ((BitVec.ofInt k.bits x &&& BitVec.ofInt k.bits y).toNat : Int)), by unfold binOp; simp only [ne_eq, not_true_eq_false, if_false]; rfl, .int _ _⟩
  case or => exact ⟨.int k (k.wrap ((BitVec.ofInt k.bits x ||| BitVec.ofInt k.bits y).toNat : Int)), by unfold binOp; simp only [ne_eq, not_true_eq_false, if_false]; rfl, .int _ _⟩
  case xor => exact ⟨.int k (k.wrap ((BitVec.ofInt k.bits x ^^^ BitVec.ofInt k.bits y).toNat : Int)), by unfold binOp; simp only [ne_eq, not_true_eq_false, if_false]; rfl, .int _ _⟩
  case add => exact ⟨_, by simp [binOp, Op.intArith], .int _ _⟩
  case sub => exact ⟨_, by simp [binOp, Op.intArith], .int _ _⟩
  case mul => exact ⟨_, by simp [binOp, Op.intArith], .int _ _⟩
  all_goals exact ⟨_, by simp [binOp, Op.intCmp], .bool _⟩

theorem binStr_run {op : BinOp} {x y : ByteArray} {v : V} {p : List Prop} (h : binStr op x y = some (v, p)) (hp : ∀ q ∈ p, q) (t : TypeId) :
    ∃ u, (binOp op t (.string x) (.string y)).run P w = .ok u w ∧ RepV w own obl v u := by
  cases op <;> simp only [binStr, Option.some.injEq, Prod.mk.injEq, reduceCtorEq] at h
  case add =>
    obtain ⟨rfl, rfl⟩ := h
    have hs : x.size + y.size ≤ 9223372036854775807 := hp _ (by simp)
    have hs' : ¬ (((x.size + y.size : Nat) : Int) > IntKind.i64.max) := by
      have : IntKind.i64.max = 9223372036854775807 := by decide
      omega
    refine ⟨.string (x ++ y), ?_, .str _⟩
    unfold binOp Op.stringOp
    simp only [if_neg hs']
    rfl
  all_goals
    obtain ⟨rfl, rfl⟩ := h
    exact ⟨_, by simp [binOp, Op.stringOp], .bool _⟩

theorem eqGuard_int {op t x y k k' n m} : (eqGuard op t x y (.int k n) (.int k' m)).run P w = .ok () w := by
  unfold eqGuard; split <;> simp
theorem eqGuard_str {op t x y n m} : (eqGuard op t x y (.string n) (.string m)).run P w = .ok () w := by
  unfold eqGuard; split <;> simp

theorem eqGuard_bool {op t x y b c} : (eqGuard op t x y (.bool b) (.bool c)).run P w = .ok () w := by
  unfold eqGuard; split <;> simp
theorem equalIn_bool {d t b c} (h : P.underlying t = some .bool) : (Op.equalIn (d + 1) t (.bool b) (.bool c)).run P w = .ok (b == c) w := by
  simp only [Op.equalIn, Sem.run_bind, run_underlying h, Result.andThen_ok]
  rfl
theorem equal_bool {t b c} (h : P.underlying t = some .bool) : (Op.equal t (.bool b) (.bool c)).run P w = .ok (b == c) w := equalIn_bool (d := 9999) h
theorem binBool_eq {t b c} (h : P.underlying t = some .bool) : (binOp .eql t (.bool b) (.bool c)).run P w = .ok (.bool (b == c)) w := by
  show ((do pure (.bool (← Op.equal t (.bool b) (.bool c))) : Sem Value)).run P w = _
  simp only [Sem.run_bind, equal_bool h, Result.andThen_ok, Sem.run_pure]
theorem binBool_neq {t b c} (h : P.underlying t = some .bool) : (binOp .neq t (.bool b) (.bool c)).run P w = .ok (.bool (b != c)) w := by
  show ((do pure (.bool (!(← Op.equal t (.bool b) (.bool c)))) : Sem Value)).run P w = _
  simp only [Sem.run_bind, equal_bool h, Result.andThen_ok, Sem.run_pure]
  rfl

theorem out_bin (H : HR w own obl) (hR : ∀ t, RepT (RepV w own obl) (rd t) (a.tmps.getD t undef)) {op : BinOp} {t t' : TypeId} {x y : Operand} (ho : o.op = .binOp op t x y t')
    (he : (match rdO rd x, rdO rd y with
    | some (.one x), some (.one y) => match binV (P.underlying t) op x y with
      | some (v, p) => some (⟨.one v, [], p⟩ : Eff)
      | none => none
    | _, _ => none) = some e) (hp : ∀ p ∈ e.obs, p) : Out P o a w own obl e := by
  split at he
  · rename_i xv yv hx hy
    split at he
    · rename_i v p hv
      injection he with he; subst he
      have hxr := rdO_rep hR hx
      have hyr := rdO_rep hR hy
      have key : ∃ u, (binOp op t (a.eval x) (a.eval y)).run P w = .ok u w ∧ (eqGuard op t x y (a.eval x) (a.eval y)).run P w = .ok () w ∧ RepV w own obl v u := by
        unfold binV at hv
        split at hv
        · rename_i k n k' m
          have e1 := rep_int (obl := obl) hxr
          have e2 := rep_int (obl := obl) hyr
          rw [e1, e2]
          have hb : binInt op k n m = some (v, p) ∧ (op = .shl ∨ op = .shr ∨ k = k') := by
            split at hv
            · exact ⟨hv, .inl rfl⟩
            · exact ⟨hv, .inr (.inl rfl)⟩
            · split at hv
              · rename_i hk
                exact ⟨hv, .inr (.inr (by simpa using hk))⟩
              · cases hv
          obtain ⟨u, hu, hr⟩ := binInt_run (P := P) (w := w) (own := own) (obl := obl) hb.1 hp hb.2 t
          exact ⟨u, hu, eqGuard_int, hr⟩
        · have e1 := rep_str (obl := obl) hxr
          have e2 := rep_str (obl := obl) hyr
          rw [e1, e2]
          obtain ⟨u, hu, hr⟩ := binStr_run (P := P) (w := w) (own := own) (obl := obl) hv hp t
          exact ⟨u, hu, eqGuard_str, hr⟩
        · rename_i b c
          have e1 := rep_bool (obl := obl) hxr
          have e2 := rep_bool (obl := obl) hyr
          rw [e1, e2]
          split at hv
          · rename_i hu
            simp only [Option.some.injEq, Prod.mk.injEq] at hv
            obtain ⟨rfl, rfl⟩ := hv
            exact ⟨_, binBool_eq hu, eqGuard_bool, .bool _⟩
          · rename_i hu
            simp only [Option.some.injEq, Prod.mk.injEq] at hv
            obtain ⟨rfl, rfl⟩ := hv
            exact ⟨_, binBool_neq hu, eqGuard_bool, .bool _⟩
          · cases hv
        · cases hv
      obtain ⟨u, hu, hg, hr⟩ := key
      refine out_pure (v := u) H ?_ hr
      simp only [execOp, ho]; simp [hg, hu]
    · cases he
  · cases he

theorem out_un (H : HR w own obl) (hR : ∀ t, RepT (RepV w own obl) (rd t) (a.tmps.getD t undef)) {op : UnOp} {t : TypeId} {x : Operand} (ho : o.op = .unOp op t x)
    (he : (match rdO rd x with
    | some (.one x) => (unV op x).bind fun v => ret (.one v)
    | _ => none) = some e) : Out P o a w own obl e := by
  split at he
  · rename_i xv hx
    obtain ⟨v, hv, he⟩ := Option.bind_eq_some_iff.1 he
    injection he with he; subst he
    have hxr := rdO_rep hR hx
    unfold unV at hv
    split at hv
    · injection hv with hv; subst hv
      refine out_pure H (v := .int _ _) ?_ (.int _ _)
      simp only [execOp, ho]; rw [rep_int (obl := obl) hxr]; simp [Op.unary, Op.intArith]
    · injection hv with hv; subst hv
      refine out_pure H (v := .bool _) ?_ (.bool _)
      simp only [execOp, ho]; rw [rep_bool (obl := obl) hxr]; simp [Op.unary]
    · cases hv
  · cases he

theorem out_convert (H : HR w own obl) (hR : ∀ t, RepT (RepV w own obl) (rd t) (a.tmps.getD t undef)) {src dst : TypeId} {x : Operand} (ho : o.op = .convert src dst x)
    (he : (match rdO rd x, P.underlying src, P.underlying dst with
    | some (.one (.int _ n)), some _, some (.int k) => ret (.one (.int k (k.wrap n)))
    | _, _, _ => none) = some e) : Out P o a w own obl e := by
  split at he
  · rename_i k0 n d k hx hs hu
    injection he with he; subst he
    refine out_pure H (v := .int k (k.wrap n)) ?_ (.int _ _)
    simp only [execOp, ho]; rw [rep_int (obl := obl) (rdO_rep hR hx)]
    simp [convert, run_underlying hu, run_underlying hs, Conv.intToInt]
  · cases he

theorem out_index (H : HR w own obl) (hR : ∀ t, RepT (RepV w own obl) (rd t) (a.tmps.getD t undef)) {t : TypeId} {x i : Operand} (ho : o.op = .index t x i)
    (he : (match rdO rd x, rdO rd i, P.underlying t with
    | some (.one (.str s)), some (.one (.int _ i)), some .string => some (⟨.one (.int .u8 ((s.data.toList.getD i.toNat 0).toNat : Int)), [], [0 ≤ i, i < (s.size : Int)]⟩ : Eff)
    | _, _, _ => none) = some e) (hp : ∀ p ∈ e.obs, p) : Out P o a w own obl e := by
  split at he
  · rename_i s k n hx hi hu
    injection he with he; subst he
    have h0 : 0 ≤ n := hp _ (by simp)
    have h1 : n < (s.size : Int) := hp _ (by simp)
    have hlt : n.toNat < s.size := by omega
    refine out_pure H (v := .int .u8 ((s.data.toList.getD n.toNat 0).toNat : Int)) ?_ (.int _ _)
    simp only [execOp, ho]; rw [rep_int (obl := obl) (rdO_rep hR hi), rep_str (obl := obl) (rdO_rep hR hx)]
    have hlt' : n.toNat < s.data.size := hlt
    have hb : s[n.toNat]? = some (s.data.toList.getD n.toNat 0) := by
      rw [getElem?_pos s n.toNat hlt]
      have : s[n.toNat] = s.data[n.toNat] := rfl
      rw [this, List.getD, Array.getElem?_toList, Array.getElem?_eq_getElem hlt']; rfl
    simp [Instr.index, asIntOf, run_underlying hu, h0, hb]
  · cases he

theorem out_extract (H : HR w own obl) (hR : ∀ t, RepT (RepV w own obl) (rd t) (a.tmps.getD t undef)) {x : Operand} {n : Nat} (ho : o.op = .extract x n)
    (he : (match rdO rd x with
    | some (.tup ts) => match ts[n]? with | some t => ret t | none => none
    | _ => none) = some e) : Out P o a w own obl e := by
  split at he
  · rename_i ts hx
    split at he
    · rename_i t ht
      injection he with he; subst he
      obtain ⟨us, hu, hr⟩ := rdO_rep hR hx
      obtain ⟨u, hu', hr'⟩ := hr.get n t ht
      refine out_pure H (v := u) ?_ hr'.toT
      simp only [execOp, ho]; rw [hu]
      simp [Instr.extract, hu']
    · cases he
  · cases he

end
end Go.Abs
