import Derived.Test.YtkjlebnmeimfnaaAbsBack
import Derived.Test.YtkjlebnmeimfnaaAbsWk
namespace Go.Abs

theorem Trans.comp' {w own ob w1 own1 ob1 w2 own2 ob2} (h : Trans w own ob w1 own1 ob1) (k : Trans w1 own1 ob1 w2 own2 ob2) : Trans w own ob w2 own2 ob2 where
  free a v h1 h2 := by
    obtain ⟨g1, g2⟩ := h.free a v h1 h2
    exact k.free a v g1 g2
  site s := by
    obtain ⟨h1, h2⟩ := h.site s
    obtain ⟨k1, k2⟩ := k.site s
    refine ⟨Nat.le_trans h1 k1, fun c' hc => ?_⟩
    have e : (lk ob1 s).ver = (lk ob s).ver := by
      rw [hc] at k1
      exact Nat.le_antisymm k1 h1
    obtain ⟨c1, e1, e2, e3, e4⟩ := k2 c' (by rw [e]; exact hc)
    rw [e] at e1
    obtain ⟨c, f1, f2, f3, f4⟩ := h2 c1 e1
    refine ⟨c, f1, e2.trans f2, e3.trans f3, fun b hb => ?_⟩
    obtain ⟨g1, g2⟩ := f4 b hb
    obtain ⟨g3, g4⟩ := e4 b g1
    exact ⟨g3, g4.trans g2⟩


def ownF (ss : List Nat) (own : Nat → Own) : Nat → Own := fun b => match own b with
  | .at s => match hasN ss s with | true => .free | false => .at s
  | .free => .free
  | .outer => .outer

theorem ownF_at {ss : List Nat} {own : Nat → Own} {b s : Nat} : ownF ss own b = .at s ↔ own b = .at s ∧ s ∉ ss := by
  unfold ownF
  constructor
  · intro h
    split at h
    · rename_i s' hs
      split at h
      · cases h
      · rename_i hn
        injection h with h; subst h
        exact ⟨hs, hasN_false.1 hn⟩
    · cases h
    · cases h
  · rintro ⟨h1, h2⟩
    simp [h1, hasN_false.2 h2]
theorem ownF_free {ss : List Nat} {own : Nat → Own} {b : Nat} (h : own b = .free) : ownF ss own b = .free := by simp [ownF, h]
theorem ownF_dead {ss : List Nat} {own : Nat → Own} {b s : Nat} (h : own b = .at s) (hs : s ∈ ss) : ownF ss own b = .free := by simp [ownF, h, hasN_iff.2 hs]

section
variable {P : Program} {o : Oper} {a : Act} {w : World} {own : Nat → Own} {obl : Obs} {rd : Nat → T} {ob : Nat → Option Ob} {ch : Ch} {e : Eff}

theorem frz_out {ss : List Nat} {e' : Eff} (hob : ∀ s o', ob s = some o' → lk obl s = o') (h : frzE ob ss e = some e') (O : Out P o a w own obl e) : Out P o a w own obl e' := by
  obtain ⟨v, w', own', hrun, T, H, K, hv⟩ := O
  unfold frzE at h
  split at h
  · rename_i t dead h1 h2
    injection h with h; subst h
    have hob1 : ∀ s o', obOf ob e.wo s = some o' → lk (ups obl e.wo) s = o' := by
      intro s o' h
      rw [lk_ups]
      unfold obOf at h
      split at h
      · rename_i x hx
        injection h with h; subst h
        rw [hx]; rfl
      · rename_i hx
        rw [hx]
        exact hob s o' h
    obtain ⟨d1, d2⟩ := deadObs_spec hob1 h2
    have hups : ∀ s, lk (ups obl (e.wo ++ dead)) s = (fnd dead s).getD (lk (ups obl e.wo) s) := by
      intro s
      rw [lk_ups, lk_ups]
      have : ∀ (l : List (Nat × Ob)), fnd (l ++ dead) s = match fnd dead s with | some y => some y | none => fnd l s := by
        intro l
        induction l with
        | nil => simp only [List.nil_append]; cases fnd dead s <;> rfl
        | cons p r ih =>
          obtain ⟨t, x⟩ := p
          simp only [List.cons_append, fnd, ih]
          cases fnd dead s <;> rfl
      rw [this]
      cases fnd dead s <;> rfl
    have lkF : ∀ s ∈ ss, lk (ups obl (e.wo ++ dead)) s = ⟨(lk (ups obl e.wo) s).ver + 1, none⟩ := by
      intro s hs
      rw [hups]
      cases hf : fnd dead s with
      | none =>
        obtain ⟨x, hx⟩ := d2 s hs
        exact absurd hx (fnd_none hf x)
      | some y => rw [(d1 s y (fnd_some hf)).2]; rfl
    have lkO : ∀ s, s ∉ ss → lk (ups obl (e.wo ++ dead)) s = lk (ups obl e.wo) s := by
      intro s hs
      rw [hups]
      cases hf : fnd dead s with
      | none => rfl
      | some y => exact absurd (d1 s y (fnd_some hf)).1 hs
    have T2 : Trans w' own' (ups obl e.wo) w' (ownF ss own') (ups obl (e.wo ++ dead)) := by
      refine ⟨fun a v h1 h2 => ⟨ownF_free h1, h2⟩, fun s => ?_⟩
      by_cases hs : s ∈ ss
      · rw [lkF s hs]
        exact ⟨by simp, fun c' h => by injection h with h1 h2; cases h2⟩
      · rw [lkO s hs]
        exact ⟨Nat.le_refl _, fun c' h => ⟨c', h, rfl, rfl, fun b hb => ⟨ownF_at.2 ⟨hb, hs⟩, rfl⟩⟩⟩
    have K2 : Keep w' own' w' (ownF ss own') := by
      refine ⟨rfl, rfl, rfl, Nat.le_refl _, fun _ _ _ => rfl, fun b _ h => ownF_free h, fun b => ?_⟩
      unfold ownF
      constructor
      · intro h; rw [h]
      · intro h
        split at h
        · split at h <;> cases h
        · cases h
        · assumption
    refine ⟨v, w', ownF ss own', hrun, T.comp' T2, ⟨fun s u c hc => ?_, fun b hb => ownF_free (H.fresh b hb)⟩, K.trans K2, ?_⟩
    · by_cases hs : s ∈ ss
      · rw [lkF s hs] at hc; injection hc with _ hc; cases hc
      · rw [lkO s hs] at hc
        rcases H.blk s u c hc with hemp | ⟨b, cells, B⟩
        · exact .inl ⟨hemp.1, fun b hb => hemp.2 b (ownF_at.1 hb).1⟩
        right
        exact ⟨b, cells, ownF_at.2 ⟨B.owned, hs⟩, fun b' hb' => B.only b' (ownF_at.1 hb').1, B.heap, B.len, B.room, fun i e j x h1 h2 => by
          obtain ⟨q, hq, hr⟩ := B.rep i e j x h1 h2
          exact ⟨q, hq, RepC.trans T2 hr⟩⟩
    · refine mapT_rep (R := RepV w' own' (ups obl e.wo)) (R' := RepV w' (ownF ss own') (ups obl (e.wo ++ dead))) (fun x y u hx hy => ?_) hv h1
      have keep : x = y → RepV w' (ownF ss own') (ups obl (e.wo ++ dead)) y u := fun hxy => by subst hxy; exact RepV.trans T2 hx
      unfold frzV at hy
      split at hy
      · rename_i s n
        split at hy
        · rename_i hs
          split at hy
          · rename_i c hlive
            split at hy
            · rename_i hf
              injection hy with hy; subst hy
              have hlk := live_lk hob1 hlive
              rcases hx.2.2 c hlk with ⟨hes0, rfl⟩ | ⟨b, cap, rfl, hown, hbs, hle, hmx⟩
              · rw [hes0]
                exact RepI.arr (w := w') (fr := frOf (ownF ss own')) c.sz [] none 0 (fun _ _ => undef) (by simp) (by simp) (by simp) (by simp) (by simp)
              obtain ⟨b', cells, B⟩ := (H.blk s n c hlk).resolve_left fun h => h.2 b hown
              have hbb : b = b' := B.only b hown
              subst hbb
              refine .arr c.sz c.es _ cap (fun i j => cells.getD (i * c.sz + j) undef) (Nat.le_trans hle hmx) hle B.len (fun i e j x hi hj => ?_) fun _ => ⟨_, rfl, fun i e j x hi hj => ⟨ownF_dead hown (hasN_iff.1 hs), ?_⟩⟩
              · obtain ⟨q, hq, hr⟩ := B.rep i e j x hi hj
                rw [hf] at hr
                have : cells.getD (i * c.sz + j) undef = q := by simp [hq]
                rw [this]
                exact hr.mono fun a v h1 h2 => ⟨ownF_free h1, h2⟩
              · obtain ⟨q, hq, hr⟩ := B.rep i e j x hi hj
                rw [add_mid]
                simp only [World.cell?, B.heap]
                simp [hq]
            · cases hy
          · cases hy
        · injection hy with hy
          exact keep hy
      · injection hy with hy
        exact keep hy
  · cases h

theorem ups_snoc : ∀ (l : List (Nat × Ob)) (obl : Obs) (s : Nat) (x : Ob), ups obl (l ++ [(s, x)]) = up (ups obl l) s x
  | [], obl, s, x => rfl
  | (t, y) :: r, obl, s, x => by
    simp only [List.cons_append, ups]
    exact ups_snoc r _ s x

theorem repL_set {R : V → Value → Prop} : ∀ {cs : List V} {us : List Value} {i : Nat} {v : V} {u : Value}, RepL R cs us → us[i]? = some u → R v u → RepL R (setL cs i v) us
  | _, _, i, v, u, .nil, hi, _ => by simp at hi
  | _, _, 0, v, u, .cons h1 h2, hi, hv => by simp at hi; subst hi; exact .cons hv h2
  | _, _, i + 1, v, u, .cons h1 h2, hi, hv => .cons h1 (repL_set h2 (by simpa using hi) hv)

theorem own1_out {q : Nat × Nat × TypeId × Nat} {e' : Eff} (hob : ∀ s o', ob s = some o' → lk obl s = o') (h : ownE1 ob q e = some e') (O : Out P o a w own obl e) : Out P o a w own obl e' := by
  obtain ⟨i, s, ty, sz⟩ := q
  obtain ⟨v, w', own', hrun, T, H, K, hv⟩ := O
  unfold ownE1 at h
  simp only at h
  split at h
  · rename_i ob0 h0
    split at h
    · rename_i t ht
      injection h with h; subst h
      have hver : (lk (ups obl e.wo) s).ver = ob0.ver := by
        rw [lk_ups]
        unfold obOf at h0
        split at h0
        · rename_i x hx
          injection h0 with h0; subst h0
          rw [hx]; rfl
        · rename_i hx
          rw [hx]
          show (lk obl s).ver = _
          rw [hob s _ h0]
      obtain ⟨T2, H2, K2, hrep⟩ := new_nil H s ty sz
      rw [hver] at T2 H2 hrep
      refine ⟨v, w', clr own' s, hrun, ?_, ?_, K.trans K2, ?_⟩
      · simp only [ups_snoc]; exact T.comp' T2
      · simp only [ups_snoc]; exact H2
      · simp only [ups_snoc]
        unfold setNil at ht
        split at ht
        · rename_i hd
          injection ht with ht; subst ht
          rw [hd] at hv
          have : v = .slice none 0 0 := rep_nil (obl := ups obl e.wo) hv
          rw [this]
          exact hrep
        · rename_i cs i' v' hd
          split at ht
          · rename_i hi
            injection ht with ht; subst ht
            rw [hd] at hv
            obtain ⟨us, rfl, hl⟩ := hv
            obtain ⟨u, hu, hru⟩ := hl.get _ _ hi
            have : u = .slice none 0 0 := rep_nil (obl := ups obl e.wo) hru
            subst this
            exact ⟨us, rfl, repL_set (hl.mono fun x y hx => RepV.trans T2 hx) hu hrep⟩
          · cases ht
        · cases ht
    · cases h
  · cases h

theorem owns_out (hob : ∀ s o', ob s = some o' → lk obl s = o') : ∀ {l : List (Nat × Nat × TypeId × Nat)} {e e' : Eff}, ownEs ob l e = some e' → Out P o a w own obl e → Out P o a w own obl e'
  | [], e, e', h, O => by simp only [ownEs, Option.some.injEq] at h; subst h; exact O
  | q :: r, e, e', h, O => by
    unfold ownEs at h
    split at h
    · rename_i e1 h1
      exact owns_out hob h (own1_out hob h1 O)
    · cases h
theorem owns_obs : ∀ {l : List (Nat × Nat × TypeId × Nat)} {e e' : Eff}, ownEs ob l e = some e' → e'.obs = e.obs
  | [], e, e', h => by simp only [ownEs, Option.some.injEq] at h; subst h; rfl
  | q :: r, e, e', h => by
    unfold ownEs at h
    split at h
    · rename_i e1 h1
      rw [owns_obs h]
      unfold ownE1 at h1
      split at h1
      · split at h1
        · injection h1 with h1; subst h1; rfl
        · cases h1
      · cases h1
    · cases h

theorem re_out {es : List (List V)} {e0 : Eff} (h : retypeE es e0 = some e) (hp : ∀ p ∈ e.obs, p) (H : (∀ p ∈ e0.obs, p) → Out P o a w own obl e0) : Out P o a w own obl e := by
  unfold retypeE at h
  obtain ⟨d0, wo0, obs0⟩ := e0
  dsimp only at h
  split at h
  · injection h with h; subst h
    have e1 := hp _ (List.mem_append_right _ (List.mem_singleton_self _))
    subst e1
    obtain ⟨v, w', own', hrun, T, H', K, hv⟩ := H fun p hq => hp p (List.mem_append_left _ hq)
    exact ⟨v, w', own', hrun, T, H', K, hv⟩
  · injection h with h; subst h
    have e1 := hp _ (List.mem_append_right _ (List.mem_singleton_self _))
    subst e1
    obtain ⟨v, w', own', hrun, T, H', K, hv⟩ := H fun p hq => hp p (List.mem_append_left _ hq)
    exact ⟨v, w', own', hrun, T, H', K, hv⟩
  · cases h

theorem eff1_sound (H : HR w own obl) (hR : ∀ t, RepT (RepV w own obl) (rd t) (a.tmps.getD t undef)) (hob : ∀ s o', ob s = some o' → lk obl s = o') (he : eff1 P o rd ob ch = some e) (hp : ∀ p ∈ e.obs, p) : Out P o a w own obl e := by
  unfold eff1 at he
  split at he
  · rename_i ch es
    obtain ⟨e0, h0, he⟩ := Option.bind_eq_some_iff.1 he
    exact re_out he hp fun hp0 => eff_sound H hR hob h0 hp0
  · rename_i t
    obtain ⟨e0, h0, he⟩ := Option.bind_eq_some_iff.1 he
    injection he with he; subst he
    obtain ⟨v, w', own', hrun, T, H', K, hv⟩ := eff_sound H hR hob h0 hp
    exact ⟨v, w', own', hrun, T, H', K, weakT_rep (wkT_weak _ _) hv⟩
  · exact eff_sound H hR hob he hp

theorem effX_sound (H : HR w own obl) (hR : ∀ t, RepT (RepV w own obl) (rd t) (a.tmps.getD t undef)) (hob : ∀ s o', ob s = some o' → lk obl s = o') (he : effX P o rd ob ch = some e) (hp : ∀ p ∈ e.obs, p) : Out P o a w own obl e := by
  unfold effX at he
  split at he
  · rename_i ch ss
    obtain ⟨e0, h0, he⟩ := Option.bind_eq_some_iff.1 he
    have hobs : e.obs = e0.obs := by
      unfold frzE at he
      split at he
      · injection he with he; subst he; rfl
      · cases he
    exact frz_out hob he (eff1_sound H hR hob h0 (by rw [← hobs]; exact hp))
  · rename_i l
    obtain ⟨e0, h0, he⟩ := Option.bind_eq_some_iff.1 he
    exact owns_out hob he (eff_sound H hR hob h0 (by rw [← owns_obs he]; exact hp))
  · exact eff1_sound H hR hob he hp

end
end Go.Abs
