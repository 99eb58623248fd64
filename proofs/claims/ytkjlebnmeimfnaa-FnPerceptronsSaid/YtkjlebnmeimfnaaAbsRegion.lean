import Derived.Test.YtkjlebnmeimfnaaAbsBack
import Derived.Test.YtkjlebnmeimfnaaAbsFrz
namespace Go.Abs

structure Way (w : World) (own : Nat → Own) (ob : Obs) (w' : World) (own' : Nat → Own) (ob' : Obs) : Prop where
  keep : Keep w own w' own'
  trans_ : Trans w own ob w' own' ob'
theorem Way.refl (w own ob) : Way w own ob w own ob := ⟨Keep.refl _ _, Trans.refl _ _ _⟩
theorem Way.trans {w own ob w1 own1 ob1 w2 own2 ob2} (h : Way w own ob w1 own1 ob1) (k : Way w1 own1 ob1 w2 own2 ob2) : Way w own ob w2 own2 ob2 := ⟨h.keep.trans k.keep, h.trans_.comp' k.trans_⟩

def Sim (st : St) (w : World) (own : Nat → Own) (tmps : Array Value) : Prop :=
  HR w own st.ob ∧ tmps.size = st.sl.length ∧ ∀ t, RepT (RepV w own st.ob) (st.rd t) (tmps.getD t undef)

theorem setL_len {α} : ∀ (l : List α) (n : Nat) (x : α), (setL l n x).length = l.length
  | [], _, _ => rfl
  | _ :: r, 0, x => rfl
  | y :: r, n + 1, x => by simp [setL, setL_len r n x]
theorem setL_get {α} : ∀ (l : List α) (n : Nat) (x : α) (t : Nat), (setL l n x)[t]? = if n = t ∧ t < l.length then some x else l[t]?
  | [], n, x, t => by simp [setL]
  | y :: r, 0, x, t => by
    cases t with
    | zero => simp [setL]
    | succ t => simp [setL]
  | y :: r, n + 1, x, t => by
    cases t with
    | zero => simp [setL]
    | succ t => simp [setL, setL_get r n x t]

theorem putE_len (st : St) (o : Oper) (e : Eff) : (putE st o e).sl.length = st.sl.length := by
  unfold putE
  cases o.dst <;> simp [setL_len]
theorem putE_rd (st : St) (o : Oper) (e : Eff) (t : Nat) : (putE st o e).rd t = if o.dst = some t ∧ t < st.sl.length then e.dst else st.rd t := by
  unfold putE St.rd
  cases h : o.dst with
  | none => simp
  | some d =>
    simp only [List.getD_eq_getElem?_getD, setL_get]
    by_cases hd : d = t ∧ t < st.sl.length
    · rw [if_pos hd, if_pos ⟨by rw [hd.1], hd.2⟩]; rfl
    · rw [if_neg hd, if_neg (fun h => hd ⟨by injection h.1, h.2⟩)]
theorem putE_lk (st : St) (o : Oper) (e : Eff) (s : Nat) : lk (putE st o e).ob s = (fnd e.wo s).getD (lk st.ob s) := lk_ups _ _ _

theorem Sim.put {st : St} {w w' : World} {own own' : Nat → Own} {a : Act} {o : Oper} {e : Eff} {v : Value} (S : Sim st w own a.tmps) (T : Trans w own st.ob w' own' (ups st.ob e.wo)) (H : HR w' own' (ups st.ob e.wo))
    (hv : RepT (RepV w' own' (ups st.ob e.wo)) e.dst v) : Sim (putE st o e) w' own' (a.put o.dst v).tmps := by
  refine ⟨H, ?_, fun t => ?_⟩
  · rw [putE_len, ← S.2.1]
    unfold Act.put
    cases o.dst <;> simp
  · rw [putE_rd]
    have hget : (a.put o.dst v).tmps.getD t undef = if o.dst = some t ∧ t < a.tmps.size then v else a.tmps.getD t undef := by
      unfold Act.put
      cases h : o.dst with
      | none => simp
      | some d =>
        simp only [Array.getD_eq_getD_getElem?, Array.getElem?_setIfInBounds]
        by_cases hd : d = t
        · subst hd
          by_cases hs : d < a.tmps.size
          · simp [hs]
          · simp [hs]
        · simp [hd]
    rw [hget, S.2.1]
    by_cases hd : o.dst = some t ∧ t < st.sl.length
    · rw [if_pos hd, if_pos hd]; exact hv
    · rw [if_neg hd, if_neg hd]; exact (S.2.2 t).mono fun x u h => RepV.trans T h

theorem obs_congr {w own} {ob ob' : Obs} (h : ∀ s, lk ob s = lk ob' s) : Trans w own ob w own ob' where
  free a v h1 h2 := ⟨h1, h2⟩
  site s := ⟨by rw [h s]; exact Nat.le_refl _, fun c' hc => ⟨c', by rw [h s]; rw [h s] at hc; exact hc, rfl, rfl, fun b hb => ⟨hb, rfl⟩⟩⟩

theorem Sim.congr {st st' : St} {w own tmps} (S : Sim st w own tmps) (hl : st'.sl.length = st.sl.length) (hr : ∀ t, st'.rd t = st.rd t) (ho : ∀ s, lk st'.ob s = lk st.ob s) : Sim st' w own tmps := by
  have T := obs_congr (w := w) (own := own) (fun s => (ho s).symm)
  refine ⟨⟨fun s v c h => ?_, S.1.fresh⟩, by rw [hl]; exact S.2.1, fun t => by rw [hr t]; exact (S.2.2 t).mono fun x u h => RepV.trans T h⟩
  rw [ho s] at h
  rcases S.1.blk s v c h with hemp | ⟨b, cells, B⟩
  · exact .inl hemp
  right
  exact ⟨b, cells, B.owned, B.only, B.heap, B.len, B.room, fun i e j x h1 h2 => by
    obtain ⟨u, hu, hr⟩ := B.rep i e j x h1 h2
    exact ⟨u, hu, RepC.trans T hr⟩⟩

section
variable {P : Program} {ops : List Oper} {Q : Exit → Act → World → Prop}

theorem wanted_sound {rd : Nat → T} {o : Oper} {a : Act} {w own obl} {b : Bool} (hR : ∀ t, RepT (RepV w own obl) (rd t) (a.tmps.getD t undef)) (h : wantedA ops rd o = some b) :
    Region.wanted o (yielded ops.toArray a.tmps) = b := by
  unfold wantedA at h
  unfold Region.wanted
  split at h
  · rename_i hg
    injection h with h; subst h
    rw [hg]
  · rename_i j w' hg
    rw [hg]
    split at h
    · rename_i t ht
      have hy : yielded ops.toArray a.tmps j = match a.tmps[t]? with | some (.bool b) => some b | _ => none := by
        unfold yielded
        rw [List.getElem?_toArray, ht]; rfl
      simp only [hy]
      have hr := hR t
      have hd : a.tmps.getD t undef = (a.tmps[t]?).getD undef := by simp
      rw [hd] at hr
      split at h
      · rename_i hrt
        injection h with h; subst h
        rw [hrt] at hr
        have := rep_bool (obl := obl) hr
        cases hq : a.tmps[t]? with
        | none => rw [hq] at this; simp [undef] at this
        | some u => rw [hq] at this; simp at this; subst this; simp
      · rename_i hrt
        injection h with h; subst h
        rw [hrt] at hr
        have := rep_bool (obl := obl) hr
        cases hq : a.tmps[t]? with
        | none => rw [hq] at this; simp [undef] at this
        | some u => rw [hq] at this; simp at this; subst this; cases w' <;> simp
      · rename_i hrt
        injection h with h; subst h
        rw [hrt] at hr
        have hr : (a.tmps[t]?).getD undef = undef := hr
        cases hq : a.tmps[t]? with
        | none => simp
        | some u => rw [hq] at hr; simp at hr; subst hr; simp [undef]
      · cases h
    · cases h

/-- One operation, at whatever state looks alike where it looks. -/
theorem step_sound {st : St} {rd : Nat → T} {ob : Nat → Option Ob} {o : Oper} {ch : Ch} {e : Eff} {w own} {a : Act} {K : Act → World → Prop} (S : Sim st w own a.tmps)
    (hrd : ∀ t, rd t = st.rd t ∨ rd t = .undef) (hob : ∀ s o', ob s = some o' → lk st.ob s = o') (he : effM (CallOK P) P ops rd ob o ch = some e) (hp : ∀ p ∈ e.obs, p)
    (hK : ∀ v w' own', Sim (putE st o e) w' own' (a.put o.dst v).tmps → Way w own st.ob w' own' (putE st o e).ob → K (a.put o.dst v) w') :
    if Region.wanted o (yielded ops.toArray a.tmps) then o.wp P a w K Q ∨ (o.asks P a w ∧ LetsOut Q) else K (a.put o.dst undef) w := by
  have hR : ∀ t, RepT (RepV w own st.ob) (rd t) (a.tmps.getD t undef) := fun t => by
    rcases hrd t with h | h
    · rw [h]; exact S.2.2 t
    · rw [h]; exact trivial
  unfold effM at he
  split at he
  · cases he
  · rename_i hw
    injection he with he; subst he
    rw [wanted_sound hR hw]
    exact hK undef w own (S.put (Trans.refl _ _ _) S.1 rfl) (Way.refl _ _ _)
  · rename_i hw
    rw [wanted_sound hR hw, if_pos rfl]
    left
    have eff_case : effX P o rd ob ch = some e → o.wp P a w K Q := fun he => by
      obtain ⟨v, w', own', hrun, T, H, K', hv⟩ := effX_sound S.1 hR hob he hp
      unfold Oper.wp
      rcases hrun with hrun | ⟨hrun, rfl⟩
      · rw [hrun]
        exact hK v w' own' (S.put T H hv) ⟨K', T⟩
      · rw [hrun]
        exact hK undef w' own' (S.put T H hv) ⟨K', T⟩
    split at he
    · rename_i frz bor pass r oout adopt c hop
      split at he
      · rename_i x hc
        split at he
        · rename_i f l hx hl
          split at he
          · rename_i hg
            have hxr : a.eval x = .func (.func f) #[] #[] := (rdO_rep hR hx).2
            have hargs := rdAll_rep hR hl
            have hcs := call_sound (P := P) S.1 hob hargs he hp
            unfold goCallable at hg
            split at hg
            · rename_i fn hfn
              simp only [Bool.and_eq_true, Bool.not_eq_true'] at hg
              obtain ⟨hb, hnm⟩ := hg
              have hbody : fn.body.isNone = false := by
                cases h : fn.body with
                | none => rw [h] at hb; cases hb
                | some _ => rfl
              have hrun : (execOp a.eval o).run P w = .ok (.enter f (c.args.toList.map a.eval).toArray) w := by
                have hm := map_arr c.args a.eval
                simp only [execOp, hop, resolve, hc, hxr, Deferred.ofValue, invoke, Sem.run_bind, Sem.run_pure, Result.andThen_ok, callFunc]
                have hnm' : ¬ fn.name = "runtime.NumGoroutine" := by simpa using hnm
                have hb' : ¬ fn.body = none := by intro h; rw [h] at hbody; cases hbody
                simp [hfn, hnm', hb', program, Sem.run, hm]
              unfold Oper.wp
              rw [hrun]
              refine hcs.mono ?_
              rintro en w' ⟨v, own', rfl, T, H, K', hv⟩
              exact hK v w' own' (S.put T H hv) ⟨K', T⟩
            · cases hg
          · cases he
        · cases he
      · cases he
    · exact eff_case he

/-! in the text's order -/
theorem mask_rd (st : St) (rs : List Nat) (t : Nat) : maskRd st rs t = st.rd t ∨ maskRd st rs t = .undef := by
  unfold maskRd
  cases hasN rs t with
  | true => exact .inl rfl
  | false => exact .inr rfl
theorem mask_ob (st : St) (l : List Nat) (s : Nat) (o' : Ob) (h : maskOb st l s = some o') : lk st.ob s = o' := by
  unfold maskOb at h
  split at h
  · injection h
  · cases h

theorem runOps_sound {chs : List (Nat × Ch)} : ∀ (l : List Oper) (k : Nat) (st st' : St) (p : List Prop) (fps : List Fp) (w : World) (own : Nat → Own) (a : Act), runOps (CallOK P) P ops chs l k st = some (p, st', fps) → (∀ q ∈ p, q) → Sim st w own a.tmps →
    (∀ a' w' own', Sim st' w' own' a'.tmps → a'.defers = a.defers → Way w own st.ob w' own' st'.ob → Q .normal a' w') → wpList P ops.toArray Q l a w
  | [], k, st, st', p, fps, w, own, a, h, hp, S, hQ => by
    simp only [runOps, Option.some.injEq, Prod.mk.injEq] at h
    obtain ⟨rfl, rfl, rfl⟩ := h
    exact hQ a w own S rfl (Way.refl _ _ _)
  | o :: l, k, st, st', p, fps, w, own, a, h, hp, S, hQ => by
    simp only [runOps] at h
    split at h
    · cases h
    · rename_i e fp he
      split at h
      · rename_i p' st'' fps' hr
        injection h with h
        injection h with h1 h2
        injection h2 with h2 h3
        subst h1 h2 h3
        unfold effOp at he
        dsimp only at he
        obtain ⟨e', he2, heq⟩ := Option.map_eq_some_iff.1 he
        injection heq with e1 e2
        subst e1 e2
        unfold wpList
        refine step_sound S (mask_rd _ _) (mask_ob _ _) he2 (fun q hq => hp q (List.mem_append_left _ hq)) ?_
        intro v w' own' S' K'
        refine runOps_sound l (k + 1) _ st'' p' fps' w' own' _ hr (fun q hq => hp q (List.mem_append_right _ hq)) S' ?_
        intro a2 w2 own2 S2 hd2 K2
        refine hQ a2 w2 own2 S2 ?_ (K'.trans K2)
        rw [hd2]
        unfold Act.put
        cases o.dst <;> rfl
      · cases h

/-! in whatever order -/
def lastW {α : Type} : List (Option α) → (Nat → Bool) → Nat → α → α
  | [], _, _, x => x
  | o :: l, S, k, x => lastW l S (k + 1) (match S k with | true => o.getD x | false => x)

theorem lastW_same {α : Type} : ∀ (l : List (Option α)) (S S' : Nat → Bool) (k : Nat) (x : α), (∀ j o, l[j]? = some o → S (k + j) ≠ S' (k + j) → o = none) → lastW l S k x = lastW l S' k x
  | [], S, S', k, x, _ => rfl
  | o :: l, S, S', k, x, h => by
    simp only [lastW]
    have h0 := h 0 o rfl
    simp only [Nat.add_zero] at h0
    have : (match S k with | true => o.getD x | false => x) = (match S' k with | true => o.getD x | false => x) := by
      by_cases hs : S k = S' k
      · rw [hs]
      · rw [h0 hs]
        cases S k <;> cases S' k <;> rfl
    rw [this]
    exact lastW_same l S S' (k + 1) _ fun j o' hj hne => h (j + 1) o' (by simpa using hj) (by rwa [show k + (j + 1) = k + 1 + j by omega])

theorem lastW_const {α : Type} : ∀ (l : List (Option α)) (S : Nat → Bool) (k : Nat) (x : α), (∀ j o, l[j]? = some o → S (k + j) = true → o = none) → lastW l S k x = x
  | [], S, k, x, _ => rfl
  | o :: l, S, k, x, h => by
    simp only [lastW]
    have h0 := h 0 o rfl
    simp only [Nat.add_zero] at h0
    have : (match S k with | true => o.getD x | false => x) = x := by
      cases hs : S k with
      | true => simp only [h0 hs]; rfl
      | false => rfl
    rw [this]
    exact lastW_const l S (k + 1) x fun j o' hj hne => h (j + 1) o' (by simpa using hj) (by rwa [show k + (j + 1) = k + 1 + j by omega])

/-- one more: its write is the last one at its place -/
theorem lastW_insert {α : Type} : ∀ (l : List (Option α)) (S : Nat → Bool) (k i : Nat) (x : α) (o : Option α), l[i]? = some o → S (k + i) = false →
    (∀ j o', l[j]? = some o' → i < j → S (k + j) = true → o ≠ none → o' = none) → lastW l (fun n => S n || Nat.beq n (k + i)) k x = o.getD (lastW l S k x)
  | [], S, k, i, x, o, hi, _, _ => by simp at hi
  | o1 :: l, S, k, 0, x, o, hi, hs, h => by
    simp at hi
    subst hi
    simp only [Nat.add_zero] at hs
    simp only [lastW, Nat.add_zero, hs]
    have hb : Nat.beq k k = true := by simp
    rw [hb]
    simp only [Bool.or_true]
    cases o1 with
    | none =>
      simp only [Option.getD_none]
      refine lastW_same l _ _ (k + 1) x fun j o' hj hne => absurd ?_ hne
      have : Nat.beq (k + 1 + j) k = false := by rw [← Bool.not_eq_true]; simp; omega
      rw [this, Bool.or_false]
    | some y =>
      simp only [Option.getD_some]
      rw [lastW_const l _ (k + 1) y]
      intro j o' hj hs'
      have : Nat.beq (k + 1 + j) k = false := by rw [← Bool.not_eq_true]; simp; omega
      rw [this, Bool.or_false] at hs'
      exact h (j + 1) o' (by simpa using hj) (by omega) (by rwa [show k + (j + 1) = k + 1 + j by omega]) (by simp)
  | o1 :: l, S, k, i + 1, x, o, hi, hs, h => by
    simp only [lastW]
    have hk : Nat.beq k (k + (i + 1)) = false := by rw [← Bool.not_eq_true]; simp
    simp only [hk, Bool.or_false]
    have := lastW_insert l S (k + 1) i (match S k with | true => o1.getD x | false => x) o (by simpa using hi) (by rwa [show k + 1 + i = k + (i + 1) by omega])
      (fun j o' hj hij hsj ho => h (j + 1) o' (by simpa using hj) (by omega) (by rwa [show k + (j + 1) = k + 1 + j by omega]) ho)
    rw [show k + 1 + i = k + (i + 1) by omega] at this
    exact this

end
end Go.Abs
