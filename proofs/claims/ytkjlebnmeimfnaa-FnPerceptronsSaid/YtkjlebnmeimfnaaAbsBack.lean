import Derived.Test.YtkjlebnmeimfnaaAbsCall
namespace Go.Abs

def backO (tg : List Nat) : Own → Own
  | .at t => match tg[t - 1000]? with
    | some s => match Nat.ble 1000 t with | true => .at s | false => .free
    | none => .free
  | _ => .free

/-- whose block is whose, behind the call -/
def own2 (n : Nat) (own own1 : Nat → Own) (frz bor pass adopt : List Nat) : Nat → Own := fun b =>
  match Nat.blt b n with
  | true => match own b with
    | .at s => match hasN bor s, hasN frz s, hasN pass s, hasN adopt s with
      | true, _, _, _ => .at s
      | false, true, _, _ => .free
      | false, false, true, _ => backO (pass ++ adopt) (own1 b)
      | false, false, false, true => .free
      | false, false, false, false => .at s
    | .free => .free
    | .outer => .outer
  | false => backO (pass ++ adopt) (own1 b)

theorem backO_at {tg : List Nat} {x : Own} {s : Nat} (h : backO tg x = .at s) : ∃ k, x = .at (1000 + k) ∧ tg[k]? = some s := by
  unfold backO at h
  split at h
  · rename_i t
    split at h
    · rename_i s' hs
      split at h
      · rename_i hb
        have hb : 1000 ≤ t := by simpa using hb
        injection h with h; subst h
        exact ⟨t - 1000, by rw [show 1000 + (t - 1000) = t by omega], hs⟩
      · cases h
    · cases h
  · cases h
theorem backO_to {tg : List Nat} {s k : Nat} (h : tg[k]? = some s) : backO tg (.at (1000 + k)) = .at s := by
  unfold backO
  have e : 1000 + k - 1000 = k := by omega
  simp only [e, h]
  have : Nat.ble 1000 (1000 + k) = true := by simp
  rw [this]
theorem backO_outer {tg : List Nat} {x : Own} : backO tg x ≠ .outer := by
  unfold backO
  split
  · split
    · split <;> simp
    · simp
  · simp

section
variable {P : Program} {w w1 : World} {own own1 : Nat → Own} {obl : Obs} {ob : Nat → Option Ob} {frz bor pass adopt : List Nat}

theorem backMap_spec (hob : ∀ s o', ob s = some o' → lk obl s = o') : ∀ {pass adopt : List Nat} {oout : List Ob} {m : List (Nat × Nat × Nat)}, backMap ob pass adopt oout = some m →
    m.length = oout.length ∧ oout.length = pass.length + adopt.length ∧ ∀ (k : Nat) t v0 v1, m[k]? = some (t, v0, v1) → ∃ o, oout[k]? = some o ∧ v0 = o.ver ∧ (pass ++ adopt)[k]? = some t ∧
      ((k < pass.length ∧ v1 = bv t (lk obl t).ver o.ver) ∨ (pass.length ≤ k ∧ v1 = (lk obl t).ver + 1))
  | [], [], [], m, h => by simp [backMap] at h; subst h; simp
  | s :: pass, adopt, o :: oout, m, h => by
    simp only [backMap] at h
    split at h
    · rename_i x l hx hl
      injection h with h; subst h
      obtain ⟨h1, h2, h3⟩ := backMap_spec hob hl
      refine ⟨by simp [h1], by simp [h2]; omega, fun k t v0 v1 hk => ?_⟩
      cases k with
      | zero =>
        simp at hk
        obtain ⟨rfl, rfl, rfl⟩ := hk
        exact ⟨o, rfl, rfl, rfl, .inl ⟨by simp, by rw [hob _ _ hx]⟩⟩
      | succ k =>
        obtain ⟨o', g1, g2, g3, g4⟩ := h3 k t v0 v1 (by simpa using hk)
        refine ⟨o', by simpa using g1, g2, by simpa using g3, ?_⟩
        rcases g4 with ⟨g4, g5⟩ | ⟨g4, g5⟩
        · exact .inl ⟨by simpa using g4, g5⟩
        · exact .inr ⟨by simpa using g4, g5⟩
    · cases h
  | [], s :: adopt, o :: oout, m, h => by
    simp only [backMap] at h
    split at h
    · rename_i x l hx hl
      injection h with h; subst h
      obtain ⟨h1, h2, h3⟩ := backMap_spec (pass := []) hob hl
      refine ⟨by simp [h1], by simp [h2], fun k t v0 v1 hk => ?_⟩
      cases k with
      | zero =>
        simp at hk
        obtain ⟨rfl, rfl, rfl⟩ := hk
        exact ⟨o, rfl, rfl, rfl, .inr ⟨by simp, by rw [hob _ _ hx]⟩⟩
      | succ k =>
        obtain ⟨o', g1, g2, g3, g4⟩ := h3 k t v0 v1 (by simpa using hk)
        refine ⟨o', by simpa using g1, g2, by simpa using g3, ?_⟩
        rcases g4 with ⟨g4, g5⟩ | ⟨g4, g5⟩
        · simp at g4
        · exact .inr ⟨by simp, g5⟩
    · cases h
  | [], [], _ :: _, m, h => by simp [backMap] at h
  | _ :: _, _, [], m, h => by simp [backMap] at h
  | [], _ :: _, [], m, h => by simp [backMap] at h

theorem backObs_spec {m : List (Nat × Nat × Nat)} : ∀ {oout : List Ob} {mr : List (Nat × Nat × Nat)} {wo : List (Nat × Ob)}, backObs m oout mr = some wo →
    ∀ (k : Nat) o t v0 v1, oout[k]? = some o → mr[k]? = some (t, v0, v1) → ∃ o', mapOb (backV m) t o = some o' ∧ wo[k]? = some (t, ⟨v1, o'.con⟩)
  | [], mr, wo, h, k, o, t, v0, v1, hk, _ => by simp at hk
  | o :: oout, [], wo, h, _, _, _, _, _, _, _ => by simp [backObs] at h
  | o :: oout, (t, v0, v1) :: mr, wo, h, k, o1, t1, a0, a1, hk, hm => by
    simp only [backObs] at h
    split at h
    · rename_i o' l ho hl
      injection h with h; subst h
      cases k with
      | zero =>
        simp at hk hm
        obtain ⟨rfl, rfl, rfl⟩ := hm
        subst hk
        exact ⟨o', ho, rfl⟩
      | succ k => simpa using backObs_spec hl k o1 t1 a0 a1 (by simpa using hk) (by simpa using hm)
    · cases h
theorem backObs_len {m : List (Nat × Nat × Nat)} : ∀ {oout : List Ob} {mr : List (Nat × Nat × Nat)} {wo : List (Nat × Ob)}, backObs m oout mr = some wo → wo.length = mr.length ∧ ∀ (k : Nat) t x, wo[k]? = some (t, x) → ∃ v0 v1, mr[k]? = some (t, v0, v1)
  | [], [], wo, h => by simp [backObs] at h; subst h; simp
  | [], _ :: _, wo, h => by simp [backObs] at h
  | o :: oout, [], wo, h => by simp [backObs] at h
  | o :: oout, (t, v0, v1) :: mr, wo, h => by
    simp only [backObs] at h
    split at h
    · rename_i o' l ho hl
      injection h with h; subst h
      obtain ⟨h1, h2⟩ := backObs_len hl
      refine ⟨by simp [h1], fun k t' x hk => ?_⟩
      cases k with
      | zero => simp at hk; obtain ⟨rfl, _⟩ := hk; exact ⟨v0, v1, rfl⟩
      | succ k => simpa using h2 k t' x (by simpa using hk)
    · cases h

theorem deadObs_spec (hob : ∀ s o', ob s = some o' → lk obl s = o') : ∀ {frz : List Nat} {dead : List (Nat × Ob)}, deadObs ob frz = some dead →
    (∀ s x, (s, x) ∈ dead → s ∈ frz ∧ x = ⟨(lk obl s).ver + 1, none⟩) ∧ ∀ s ∈ frz, ∃ x, (s, x) ∈ dead
  | [], dead, h => by simp [deadObs] at h; subst h; simp
  | s :: frz, dead, h => by
    simp only [deadObs] at h
    split at h
    · rename_i o l ho hl
      injection h with h; subst h
      obtain ⟨h1, h2⟩ := deadObs_spec hob hl
      refine ⟨fun t x hx => ?_, fun t ht => ?_⟩
      · rcases List.mem_cons.1 hx with hx | hx
        · injection hx with e1 e2
          subst e1
          exact ⟨by simp, by rw [e2, hob _ _ ho]⟩
        · exact ⟨List.mem_cons_of_mem _ (h1 t x hx).1, (h1 t x hx).2⟩
      · rcases List.mem_cons.1 ht with rfl | ht
        · exact ⟨_, List.mem_cons_self ..⟩
        · obtain ⟨x, hx⟩ := h2 t ht
          exact ⟨x, List.mem_cons_of_mem _ hx⟩
    · cases h

theorem geVers_spec : ∀ {a b : List Ob}, geVers a b = true → ∀ (k : Nat) x y, a[k]? = some x → b[k]? = some y → x.ver ≤ y.ver
  | [], b, _, k, x, y, h, _ => by simp at h
  | o :: a, [], h, k, x, y, _, hy => by simp at hy
  | o :: a, o' :: b, h, k, x, y, hx, hy => by
    simp only [geVers, Bool.and_eq_true, Nat.ble_eq] at h
    cases k with
    | zero => simp at hx hy; subst hx hy; exact h.1
    | succ k => exact geVers_spec h.2 k x y (by simpa using hx) (by simpa using hy)

/-- what is known when a call is back -/
structure Back (w : World) (own : Nat → Own) (obl : Obs) (w1 : World) (own1 : Nat → Own) (frz bor pass adopt : List Nat) (oin oout : List Ob) (m : List (Nat × Nat × Nat)) (ob2 : Obs) : Prop where
  H : HR w own obl
  H1 : HR w1 own1 (enumFrom 1000 oout)
  K : Keep w (own0 own (frz ++ bor) pass) w1 own1
  T : Trans w (own0 own (frz ++ bor) pass) (enumFrom 1000 oin) w1 own1 (enumFrom 1000 oout)
  dFB : ∀ s ∈ frz, s ∉ bor
  dFP : ∀ s ∈ frz, s ∉ pass ++ adopt
  dBP : ∀ s ∈ bor, s ∉ pass ++ adopt
  inj : ∀ (i j s : Nat), (pass ++ adopt)[i]? = some s → (pass ++ adopt)[j]? = some s → i = j
  mlen : m.length = oout.length
  olen : oout.length = pass.length + adopt.length
  mspec : ∀ (k : Nat) t v0 v1, m[k]? = some (t, v0, v1) → ∃ o, oout[k]? = some o ∧ v0 = o.ver ∧ (pass ++ adopt)[k]? = some t ∧ ((k < pass.length ∧ v1 = bv t (lk obl t).ver o.ver) ∨ (pass.length ≤ k ∧ v1 = (lk obl t).ver + 1))
  inspec : oin.length = pass.length ∧ ∀ (k s : Nat), pass[k]? = some s → ∃ o', oin[k]? = some o' ∧ SameOb s (lk obl s) o'
  ge : ∀ (k : Nat) x y, oin[k]? = some x → oout[k]? = some y → x.ver ≤ y.ver
  lkT : ∀ (k : Nat) o t v0 v1, oout[k]? = some o → m[k]? = some (t, v0, v1) → ∃ o', mapOb (backV m) t o = some o' ∧ lk ob2 t = ⟨v1, o'.con⟩
  lkF : ∀ s ∈ frz, lk ob2 s = ⟨(lk obl s).ver + 1, none⟩
  lkO : ∀ s, s ∉ frz → s ∉ pass ++ adopt → lk ob2 s = lk obl s

variable {oin oout : List Ob} {m : List (Nat × Nat × Nat)} {ob2 : Obs}

theorem Back.tg (B : Back w own obl w1 own1 frz bor pass adopt oin oout m ob2) {k s : Nat} (h : (pass ++ adopt)[k]? = some s) : ∃ v0 v1 o, m[k]? = some (s, v0, v1) ∧ oout[k]? = some o := by
  have hk : k < pass.length + adopt.length := by
    have := (List.getElem?_eq_some_iff.1 h).1
    simpa using this
  have hm : k < m.length := by rw [B.mlen, B.olen]; exact hk
  obtain ⟨⟨t, v0, v1⟩, hq⟩ : ∃ q, m[k]? = some q := ⟨m[k], List.getElem?_eq_getElem hm⟩
  obtain ⟨o, h1, _, h3, _⟩ := B.mspec k t v0 v1 hq
  have : t = s := by rw [h] at h3; injection h3 with h3; exact h3.symm
  subst this
  exact ⟨v0, v1, o, hq, h1⟩

/-- an old block is the callee's only if it was passed -/
theorem Back.own1_at (B : Back w own obl w1 own1 frz bor pass adopt oin oout m ob2) {b k : Nat} (h : own1 b = .at k) (hb : b < w.heap.size) :
    ∃ s, own b = .at s ∧ s ∉ frz ∧ s ∉ bor ∧ s ∈ pass := by
  cases ho : own b with
  | free =>
    have := B.K.free b hb (own0_free ho)
    rw [h] at this; cases this
  | outer =>
    have := (B.K.outer b).1 (by simp [own0, ho])
    rw [h] at this; cases this
  | «at» s =>
    by_cases hs : s ∈ frz ++ bor
    · have := B.K.free b hb (own0_snap ho hs)
      rw [h] at this; cases this
    · cases hk : idxOf pass s 1000 with
      | none =>
        have := (B.K.outer b).1 (by simp [own0, ho, hasN_false.2 hs, hk])
        rw [h] at this; cases this
      | some k' =>
        obtain ⟨i, _, hi⟩ := idxOf_some hk
        simp only [List.mem_append, not_or] at hs
        exact ⟨s, rfl, hs.1, hs.2, List.mem_of_getElem? hi⟩

theorem Back.own2_of_at (B : Back w own obl w1 own1 frz bor pass adopt oin oout m ob2) {b k s : Nat} (h : own1 b = .at (1000 + k)) (hk : (pass ++ adopt)[k]? = some s) :
    own2 w.heap.size own own1 frz bor pass adopt b = .at s := by
  unfold own2
  cases hb : Nat.blt b w.heap.size with
  | false => simp only [h, backO_to hk]
  | true =>
    have hb : b < w.heap.size := by simpa using hb
    obtain ⟨s', h1, h2, h3, h4⟩ := B.own1_at h hb
    simp only [h1, hasN_false.2 h2, hasN_false.2 h3, hasN_iff.2 h4, h, backO_to hk]

theorem Back.own2_at (B : Back w own obl w1 own1 frz bor pass adopt oin oout m ob2) {b s : Nat} (h : own2 w.heap.size own own1 frz bor pass adopt b = .at s) :
    (s ∈ pass ++ adopt ∧ ∃ k, own1 b = .at (1000 + k) ∧ (pass ++ adopt)[k]? = some s) ∨ (s ∉ frz ∧ s ∉ pass ++ adopt ∧ own b = .at s) := by
  unfold own2 at h
  split at h
  · rename_i hb
    split at h
    · rename_i s' hs'
      split at h
      · rename_i g1
        injection h with h; subst h
        have g1 := hasN_iff.1 g1
        exact .inr ⟨fun g => B.dFB _ g g1, B.dBP _ g1, hs'⟩
      · cases h
      · obtain ⟨k, h1, h2⟩ := backO_at h
        exact .inl ⟨List.mem_of_getElem? h2, k, h1, h2⟩
      · cases h
      · rename_i g1 g2 g3 g4
        injection h with h; subst h
        exact .inr ⟨hasN_false.1 g2, by simp only [List.mem_append, not_or]; exact ⟨hasN_false.1 g3, hasN_false.1 g4⟩, hs'⟩
    · cases h
    · cases h
  · obtain ⟨k, h1, h2⟩ := backO_at h
    exact .inl ⟨List.mem_of_getElem? h2, k, h1, h2⟩

theorem Back.own2_keep (B : Back w own obl w1 own1 frz bor pass adopt oin oout m ob2) {b s : Nat} (h : own b = .at s) (hf : s ∉ frz) (hp : s ∉ pass ++ adopt) :
    own2 w.heap.size own own1 frz bor pass adopt b = .at s ∧ w1.heap[b]? = w.heap[b]? := by
  have hb := own_lt B.H h
  have hblt : Nat.blt b w.heap.size = true := by simpa using hb
  simp only [List.mem_append, not_or] at hp
  constructor
  · unfold own2
    rw [hblt]
    simp only [h, hasN_false.2 hf, hasN_false.2 hp.1, hasN_false.2 hp.2]
    cases hasN bor s <;> rfl
  · by_cases hs : s ∈ bor
    · exact B.K.old b hb (.inl (own0_snap h (List.mem_append_right _ hs)))
    · refine B.K.old b hb (.inr ?_)
      have hn : hasN (frz ++ bor) s = false := hasN_false.2 (by simp [hf, hs])
      have hi : idxOf pass s 1000 = none := by
        cases hq : idxOf pass s 1000 with
        | none => rfl
        | some k => obtain ⟨i, _, hi⟩ := idxOf_some hq; exact absurd (List.mem_of_getElem? hi) hp.1
      simp [own0, h, hn, hi]

theorem Back.free (B : Back w own obl w1 own1 frz bor pass adopt oin oout m ob2) {a : Addr} {v : Value} (h : own a.block = .free) (hc : w.cell? a = some v) :
    own2 w.heap.size own own1 frz bor pass adopt a.block = .free ∧ w1.cell? a = some v := by
  have hb := cell_lt hc
  have hblt : Nat.blt a.block w.heap.size = true := by simpa using hb
  refine ⟨by simp [own2, hblt, h], ?_⟩
  rw [World.cell?_of_block (B.K.old a.block hb (.inl (own0_free h)))]
  exact hc

theorem Back.trans (B : Back w own obl w1 own1 frz bor pass adopt oin oout m ob2) : Trans w own obl w1 (own2 w.heap.size own own1 frz bor pass adopt) ob2 := by
  refine ⟨fun a v h1 h2 => B.free h1 h2, fun s => ?_⟩
  by_cases hf : s ∈ frz
  · rw [B.lkF s hf]
    exact ⟨by simp, fun c' h => by injection h with h1 h2; cases h2⟩
  · by_cases hp : s ∈ pass ++ adopt
    · obtain ⟨k, hk⟩ := List.getElem?_of_mem hp
      obtain ⟨v0, v1, o, hm, ho⟩ := B.tg hk
      obtain ⟨o1, ho1, rfl, _, hv1⟩ := B.mspec k s v0 v1 hm
      have : o1 = o := by rw [ho] at ho1; injection ho1 with ho1; exact ho1.symm
      subst this
      obtain ⟨o', hmo, hlk⟩ := B.lkT k o1 s _ v1 ho hm
      rw [hlk]
      rcases hv1 with ⟨hkp, rfl⟩ | ⟨_, rfl⟩
      · have hps : pass[k]? = some s := by rwa [List.getElem?_append_left hkp] at hk
        obtain ⟨oi, hoi, S⟩ := B.inspec.2 k s hps
        have hge := B.ge k oi o1 hoi ho
        rw [S.ver] at hge
        obtain ⟨hb1, hb2⟩ := bv_nv s _ _ hge
        refine ⟨hb1, fun c' hc' => ?_⟩
        injection hc' with hv hc'
        have hv := hb2 hv
        obtain ⟨So, _, _⟩ := mapOb_spec hmo
        obtain ⟨c0, g1, g2, g3, g4, g5⟩ := So.con c' hc'
        obtain ⟨t1, t2⟩ := B.T.site (1000 + k)
        rw [lk_enum, lk_enum, List.getD_eq_getElem?_getD, List.getD_eq_getElem?_getD, hoi, ho] at t2
        simp only [Option.getD_some] at t2
        obtain ⟨ci, hci, e1, e2, e3⟩ := t2 c0 (by rw [S.ver, ← hv, ← g1])
        obtain ⟨c, f1, f2, f3, f4, f5⟩ := S.con ci (by rw [hci])
        refine ⟨c, by rw [← f1], by rw [g3, e1, f3], by rw [g5, e2, f5], fun b hb => ?_⟩
        have hns : s ∉ frz ++ bor := by
          simp only [List.mem_append, not_or]
          exact ⟨hf, fun h => B.dBP s h hp⟩
        have hidx : idxOf pass s 1000 = some (1000 + k) := by
          cases hq : idxOf pass s 1000 with
          | none => exact absurd (List.mem_of_getElem? hps) (idxOf_none hq)
          | some k' =>
            obtain ⟨i, rfl, hi⟩ := idxOf_some hq
            have := B.inj i k s (by rw [List.getElem?_append_left (List.getElem?_eq_some_iff.1 hi).1]; exact hi) hk
            rw [this]
        obtain ⟨e4, e5⟩ := e3 b (own0_at hb hns hidx)
        exact ⟨B.own2_of_at e4 hk, e5⟩
      · exact ⟨by simp, fun c' h => by injection h with h1 h2; omega⟩
    · rw [B.lkO s hf hp]
      refine ⟨Nat.le_refl _, fun c' h => ⟨c', h, rfl, rfl, fun b hb => ?_⟩⟩
      obtain ⟨g1, g2⟩ := B.own2_keep hb hf hp
      exact ⟨g1, by simp [bsz, g2]⟩

theorem Back.keep (B : Back w own obl w1 own1 frz bor pass adopt oin oout m ob2) : Keep w own w1 (own2 w.heap.size own own1 frz bor pass adopt) := by
  refine ⟨B.K.os, B.K.tape, B.K.output, B.K.size, fun b hb ho => ?_, fun b hb hf => ?_, fun b => ⟨fun h => ?_, fun h => ?_⟩⟩
  · exact B.K.old b hb (ho.imp own0_free (fun h => by simp [own0, h]))
  · have hblt : Nat.blt b w.heap.size = true := by simpa using hb
    simp [own2, hblt, hf]
  · have hb : b < w.heap.size := by
      rcases Nat.lt_or_ge b w.heap.size with h1 | h1
      · exact h1
      · have := B.H.fresh b h1; rw [h] at this; cases this
    have hblt : Nat.blt b w.heap.size = true := by simpa using hb
    simp [own2, hblt, h]
  · unfold own2 at h
    split at h
    · split at h
      · split at h
        · cases h
        · cases h
        · exact absurd h backO_outer
        · cases h
        · cases h
      · cases h
      · rename_i h'; exact h'
    · exact absurd h backO_outer

/-- a tree that came back -/
theorem Back.treeI (B : Back w own obl w1 own1 frz [] pass adopt oin oout m ob2) {x u} (h : RepI w1 (frOf own1) x u) : RepI w1 (frOf (own2 w.heap.size own own1 frz [] pass adopt)) x u := by
  refine h.mono fun a v h1 h2 => ⟨?_, h2⟩
  have h1 : own1 a.block = .free := h1
  show own2 _ _ _ _ _ _ _ _ = _
  unfold own2
  cases hb : Nat.blt a.block w.heap.size with
  | false => simp only [h1]; rfl
  | true =>
    have hb : a.block < w.heap.size := by simpa using hb
    cases ho : own a.block with
    | free => rfl
    | outer =>
      have := (B.K.outer a.block).1 (by simp [own0, ho])
      rw [h1] at this; cases this
    | «at» s =>
      simp only [hasN]
      by_cases hf : s ∈ frz
      · simp [hasN_iff.2 hf]
      · rw [hasN_false.2 hf]
        by_cases hp : s ∈ pass
        · rw [hasN_iff.2 hp]; simp [h1, backO]
        · rw [hasN_false.2 hp]
          have hn : hasN (frz ++ []) s = false := hasN_false.2 (by simpa using hf)
          have hi : idxOf pass s 1000 = none := by
            cases hq : idxOf pass s 1000 with
            | none => rfl
            | some k => obtain ⟨i, _, hi⟩ := idxOf_some hq; exact absurd (List.mem_of_getElem? hi) hp
          have := (B.K.outer a.block).1 (by simp [own0, ho, hi, hasN_false.2 hf])
          rw [h1] at this; cases this

theorem Back.rep (B : Back w own obl w1 own1 frz bor pass adopt oin oout m ob2) {y x : V} {u : Value} (hy : RepV w1 own1 (enumFrom 1000 oout) y u) (hx : backV m y = some x) (hb : bor = [] ∨ y.noArr = true) :
    RepV w1 (own2 w.heap.size own own1 frz bor pass adopt) ob2 x u := by
  cases y <;> simp only [backV, Option.some.injEq, reduceCtorEq] at hx
  case ref s v =>
    split at hx
    · rename_i t v0 v1 hm
      split at hx
      · rename_i hc
        simp only [Bool.and_eq_true, Nat.beq_eq, Nat.ble_eq] at hc
        obtain ⟨rfl, hs⟩ := hc
        injection hx with hx; subst hx
        obtain ⟨k, rfl⟩ : ∃ k, s = 1000 + k := ⟨s - 1000, by omega⟩
        rw [show 1000 + k - 1000 = k by omega] at hm
        obtain ⟨o, ho, rfl, hk, _⟩ := B.mspec k t _ v1 hm
        obtain ⟨o', hmo, hlk⟩ := B.lkT k o t _ v1 ho hm
        refine ⟨hy.1, by rw [hlk]; exact Nat.le_refl _, fun c' hc' => ?_⟩
        rw [hlk] at hc'
        injection hc' with _ hc'
        obtain ⟨So, _, _⟩ := mapOb_spec hmo
        obtain ⟨c0, g1, g2, g3, g4, g5⟩ := So.con c' hc'
        rcases hy.2.2 c0 (by rw [lk_enum, List.getD_eq_getElem?_getD, ho, Option.getD_some, ← g1]) with ⟨hn, hxn⟩ | ⟨b, cap, rfl, e1, e2, e3, e4⟩
        · exact .inl ⟨List.eq_nil_of_length_eq_zero (by rw [g5, hn]; rfl), hxn⟩
        exact .inr ⟨b, cap, by rw [g5], B.own2_of_at e1 hk, by rw [g3]; exact e2, by rw [g5]; exact e3, e4⟩
      · injection hx with hx; subst hx; trivial
    · injection hx with hx; subst hx; trivial
  case ptr s v i off =>
    split at hx
    · rename_i t v0 v1 hm
      split at hx
      · rename_i hc
        simp only [Bool.and_eq_true, Nat.beq_eq, Nat.ble_eq] at hc
        obtain ⟨rfl, hs⟩ := hc
        injection hx with hx; subst hx
        obtain ⟨k, rfl⟩ : ∃ k, s = 1000 + k := ⟨s - 1000, by omega⟩
        rw [show 1000 + k - 1000 = k by omega] at hm
        obtain ⟨o, ho, rfl, hk, _⟩ := B.mspec k t _ v1 hm
        obtain ⟨o', hmo, hlk⟩ := B.lkT k o t _ v1 ho hm
        refine ⟨hy.1, by rw [hlk]; exact Nat.le_refl _, fun c' hc' => ?_⟩
        rw [hlk] at hc'
        injection hc' with _ hc'
        obtain ⟨So, _, _⟩ := mapOb_spec hmo
        obtain ⟨c0, g1, g2, g3, g4, g5⟩ := So.con c' hc'
        obtain ⟨b, rfl, e1⟩ := hy.2.2 c0 (by rw [lk_enum, List.getD_eq_getElem?_getD, ho, Option.getD_some, ← g1])
        exact ⟨b, by rw [g3], B.own2_of_at e1 hk⟩
      · injection hx with hx; subst hx; trivial
    · injection hx with hx; subst hx; trivial
  case int k n => subst hx; cases hy; exact .int _ _
  case bool k => subst hx; cases hy; exact .bool _
  case str k => subst hx; cases hy; exact .str _
  case nil => subst hx; cases hy; exact .nil
  case arr sz xs =>
    subst hx
    rcases hb with rfl | hb
    · exact B.treeI (x := .arr sz xs) hy
    · simp [V.noArr] at hb
  case ipt => subst hx; trivial
  case fn => subst hx; trivial
  case undef => subst hx; trivial
  case void => subst hx; trivial

theorem Back.hr (B : Back w own obl w1 own1 frz bor pass adopt oin oout m ob2) (hbor : bor = [] ∨ ∀ (k : Nat) o c, oout[k]? = some o → o.con = some c → ∀ e ∈ c.es, ∀ v ∈ e, v.noArr = true) :
    HR w1 (own2 w.heap.size own own1 frz bor pass adopt) ob2 := by
  refine ⟨fun s v c h => ?_, fun b hb => ?_⟩
  · by_cases hf : s ∈ frz
    · rw [B.lkF s hf] at h; injection h with _ h; cases h
    · by_cases hp : s ∈ pass ++ adopt
      · obtain ⟨k, hk⟩ := List.getElem?_of_mem hp
        obtain ⟨v0, v1, o, hm, ho⟩ := B.tg hk
        obtain ⟨o', hmo, hlk⟩ := B.lkT k o s v0 v1 ho hm
        rw [hlk] at h
        injection h with hv hc
        obtain ⟨So, _, hcells⟩ := mapOb_spec hmo
        obtain ⟨c0, g1, g2, g3, g4, g5⟩ := So.con c hc
        rcases B.H1.blk (1000 + k) o.ver c0 (by rw [lk_enum, List.getD_eq_getElem?_getD, ho, Option.getD_some, ← g1]) with hemp | ⟨b, cells, B1⟩
        · refine .inl ⟨List.eq_nil_of_length_eq_zero (by rw [g5, hemp.1]; rfl), fun b' hb' => ?_⟩
          rcases B.own2_at hb' with ⟨_, k', h1, h2⟩ | ⟨_, h2, _⟩
          · have : k' = k := B.inj k' k s h2 hk
            subst this
            exact hemp.2 b' h1
          · exact absurd hp h2
        right
        refine ⟨b, cells, B.own2_of_at B1.owned hk, fun b' hb' => ?_, by rw [g2]; exact B1.heap, fun e he => ?_, by rw [g5, g3]; exact B1.room, fun i e j y hi hy => ?_⟩
        · rcases B.own2_at hb' with ⟨_, k', h1, h2⟩ | ⟨_, h2, _⟩
          · have : k' = k := B.inj k' k s h2 hk
            subst this
            exact B1.only b' h1
          · exact absurd hp h2
        · obtain ⟨i, hi⟩ := List.getElem?_of_mem he
          obtain ⟨e0, he0, hel, _⟩ := hcells c0 c g1 hc i e hi
          rw [hel, g3]
          exact B1.len e0 (List.mem_of_getElem? he0)
        · obtain ⟨e0, he0, _, hjy⟩ := hcells c0 c g1 hc i e hi
          obtain ⟨x, hx, hfx⟩ := hjy j y hy
          obtain ⟨q, hq, hr⟩ := B1.rep i e0 j x he0 hx
          refine ⟨q, by rw [g3]; exact hq, ?_⟩
          have hb' : bor = [] ∨ x.noArr = true := hbor.imp id fun h => h k o c0 ho g1 e0 (List.mem_of_getElem? he0) x (List.mem_of_getElem? hx)
          rw [g4]
          cases hfl : c0.flat with
          | true =>
            rw [hfl] at hfx hr
            simp at hfx; subst hfx
            rcases hb' with rfl | hna
            · exact B.treeI hr
            · have hr' : RepI w1 (frOf own1) y q := hr
              cases hr' with
              | int k n => exact .int _ _
              | bool b => exact .bool _
              | str s => exact .str _
              | nil => exact .nil
              | arr => simp [V.noArr] at hna
          | false =>
            rw [hfl] at hfx hr
            simp at hfx
            exact B.rep hr hfx hb'
      · rw [B.lkO s hf hp] at h
        rcases B.H.blk s v c h with hemp | ⟨b, cells, B1⟩
        · refine .inl ⟨hemp.1, fun b' hb' => ?_⟩
          rcases B.own2_at hb' with ⟨h2, _⟩ | ⟨_, _, h3⟩
          · exact absurd h2 hp
          · exact hemp.2 b' h3
        right
        obtain ⟨g1, g2⟩ := B.own2_keep B1.owned hf hp
        refine ⟨b, cells, g1, fun b' hb' => ?_, by rw [g2]; exact B1.heap, B1.len, B1.room, fun i e j x hi hx => ?_⟩
        · rcases B.own2_at hb' with ⟨h2, _⟩ | ⟨_, _, h3⟩
          · exact absurd h2 hp
          · exact B1.only b' h3
        · obtain ⟨q, hq, hr⟩ := B1.rep i e j x hi hx
          exact ⟨q, hq, RepC.trans B.trans hr⟩
  · have hb1 := B.H1.fresh b hb
    have : Nat.blt b w.heap.size = false := by
      rw [← Bool.not_eq_true]; simp; exact Nat.le_trans B.K.size hb
    simp [own2, this, hb1, backO]

theorem mapT_rep {f : V → Option V} {R R' : V → Value → Prop} (H : ∀ x y u, R x u → f x = some y → R' y u) {t t' : T} {u : Value} (h : RepT R t u) (ht : mapT f t = some t') : RepT R' t' u := by
  have key : ∀ {xs : List V} {ys : List V} {us : List Value}, RepL R xs us → mapV f xs = some ys → RepL R' ys us := by
    intro xs ys us h
    induction h generalizing ys with
    | nil => intro hm; simp [mapV] at hm; subst hm; exact .nil
    | cons hx _ ih =>
      intro hm
      simp only [mapV] at hm
      split at hm
      · rename_i y l hy hl
        injection hm with hm; subst hm
        exact .cons (H _ _ _ hx hy) (ih hl)
      · cases hm
  cases t with
  | one x =>
    obtain ⟨y, hy, rfl⟩ := Option.map_eq_some_iff.1 ht
    exact H _ _ _ h hy
  | agg cs =>
    obtain ⟨ys, hy, rfl⟩ := Option.map_eq_some_iff.1 ht
    obtain ⟨us, rfl, h⟩ := h
    exact ⟨us, rfl, key h hy⟩
  | tup ts => simp [mapT] at ht

theorem mapTs_rep {f : V → Option V} {R R' : V → Value → Prop} (H : ∀ x y u, R x u → f x = some y → R' y u) : ∀ {ts ts' : List T} {us : List Value}, RepTT R ts us → mapTs f ts = some ts' → RepTT R' ts' us
  | [], ts', us, h, hm => by cases h; simp [mapTs] at hm; subst hm; exact .nil
  | t :: ts, ts', us, h, hm => by
    cases h with
    | cons h1 h2 =>
    simp only [mapTs] at hm
    split at hm
    · rename_i t' l ht hl
      injection hm with hm; subst hm
      exact .cons (mapT_rep H h1 ht) (mapTs_rep H h2 hl)
    · cases hm

theorem noArrs_get : ∀ {l : List V}, noArrs l = true → ∀ x ∈ l, x.noArr = true
  | [], _, x, hx => by simp at hx
  | v :: r, h, x, hx => by
    simp only [noArrs] at h
    split at h
    · rename_i hv
      rcases List.mem_cons.1 hx with rfl | hx
      · exact hv
      · exact noArrs_get h x hx
    · cases h

/-- The result, behind the call. -/
theorem backT_rep {m : List (Nat × Nat × Nat)} {R R' : V → Value → Prop} {bor : List Nat} (H : ∀ x y u, R x u → backV m x = some y → (bor = [] ∨ x.noArr = true) → R' y u) {t t' : T} {u : Value} (h : RepT R t u) (ht : backT m t = some t')
    (hb : bor = [] ∨ t.noArr = true) : RepT R' t' u := by
  have key : ∀ {xs : List V} {ys : List V} {us : List Value}, RepL R xs us → mapV (backV m) xs = some ys → (bor = [] ∨ noArrs xs = true) → RepL R' ys us := by
    intro xs ys us h
    induction h generalizing ys with
    | nil => intro hm _; simp [mapV] at hm; subst hm; exact .nil
    | cons hx _ ih =>
      intro hm hn
      simp only [mapV] at hm
      split at hm
      · rename_i y l hy hl
        injection hm with hm; subst hm
        have hn' := hn.imp id fun h => noArrs_get h
        refine .cons (H _ _ _ hx hy (hn'.imp id fun h => h _ (List.mem_cons_self ..))) (ih hl (hn.imp id fun h => ?_))
        simp only [noArrs] at h
        split at h
        · exact h
        · cases h
      · cases hm
  have key1 : ∀ {t t' : T} {u : Value}, RepT1 R t u → mapT (backV m) t = some t' → (bor = [] ∨ T1.noArr t = true) → RepT1 R' t' u := by
    intro t t' u h ht hn
    cases t with
    | one x =>
      obtain ⟨y, hy, rfl⟩ := Option.map_eq_some_iff.1 ht
      exact H _ _ _ h hy hn
    | agg cs =>
      obtain ⟨ys, hy, rfl⟩ := Option.map_eq_some_iff.1 ht
      obtain ⟨us, rfl, h⟩ := h
      exact ⟨us, rfl, key h hy hn⟩
    | tup ts => simp [mapT] at ht
  have key2 : ∀ {ts ts' : List T} {us : List Value}, RepTs R ts us → mapTs (backV m) ts = some ts' → (bor = [] ∨ noArrT ts = true) → RepTs R' ts' us := by
    intro ts ts' us h
    induction h generalizing ts' with
    | nil => intro hm _; simp [mapTs] at hm; subst hm; exact .nil
    | cons hx _ ih =>
      intro hm hn
      simp only [mapTs] at hm
      split at hm
      · rename_i y l hy hl
        injection hm with hm; subst hm
        refine .cons (key1 hx hy (hn.imp id fun h => ?_)) (ih hl (hn.imp id fun h => ?_))
        · simp only [noArrT] at h
          split at h
          · rename_i h'; exact h'
          · cases h
        · simp only [noArrT] at h
          split at h
          · exact h
          · cases h
      · cases hm
  cases t with
  | one x =>
    obtain ⟨y, hy, rfl⟩ := Option.map_eq_some_iff.1 ht
    exact H _ _ _ h hy hb
  | agg cs =>
    obtain ⟨ys, hy, rfl⟩ := Option.map_eq_some_iff.1 ht
    obtain ⟨us, rfl, h⟩ := h
    exact ⟨us, rfl, key h hy hb⟩
  | tup ts =>
    obtain ⟨ts', hts, rfl⟩ := Option.map_eq_some_iff.1 ht
    obtain ⟨us, rfl, h⟩ := h
    exact ⟨us, rfl, key2 h hts hb⟩

theorem lk_dead_wo {dead wo : List (Nat × Ob)} {s : Nat} {x : Ob} (hin : (s, x) ∈ wo) (huniq : ∀ y, (s, y) ∈ wo → y = x) : lk (ups obl (dead ++ wo)) s = x := by
  rw [lk_ups]
  have : fnd (dead ++ wo) s = some x := by
    have hw : fnd wo s = some x := by
      cases h : fnd wo s with
      | none => exact absurd hin (fnd_none h x)
      | some y => rw [huniq y (fnd_some h)]
    induction dead with
    | nil => exact hw
    | cons p r ih => obtain ⟨t, y⟩ := p; simp only [List.cons_append, fnd, ih]
  rw [this]; rfl

theorem call_sound {f : Nat} {args : List T} {r : T} {oout : List Ob} {e : Eff} {vals : List Value} (H : HR w own obl) (hob : ∀ s o', ob s = some o' → lk obl s = o') (hargs : RepTT (RepV w own obl) args vals)
    (he : effCall (CallOK P) ob f args frz bor pass r oout adopt = some e) (hp : ∀ p ∈ e.obs, p) :
    Calls P f vals.toArray w fun en w' => ∃ v own', en = .returned v ∧ Trans w own obl w' own' (ups obl e.wo) ∧ HR w' own' (ups obl e.wo) ∧ Keep w own w' own' ∧ RepT (RepV w' own' (ups obl e.wo)) e.dst v := by
  unfold effCall at he
  split at he
  · rename_i args' oin m p h1 h2 h3 h4 h5
    split at he
    · rename_i r' wo dead g1 g2 g3 g4
      injection he with he; subst he
      obtain ⟨hdA, hdB, hdAB⟩ := distinct_app (l := frz ++ bor ++ pass) (r := adopt) h5
      obtain ⟨hdC, hdD, hdCD⟩ := distinct_app (l := frz ++ bor) (r := pass) hdA
      obtain ⟨hdE, hdF, hdEF⟩ := distinct_app (l := frz) (r := bor) hdC
      have hpa : distinct (pass ++ adopt) = true := by
        have := h5
        rw [List.append_assoc (frz ++ bor)] at this
        exact (distinct_app this).2.1
      have hsnap : ∀ s ∈ frz ++ bor, s ∉ pass ++ adopt := fun s hs h => by
        rcases List.mem_append.1 h with h | h
        · exact hdCD s hs h
        · exact hdAB s (List.mem_append_left _ hs) h
      have hsp : ∀ s ∈ frz ++ bor, s ∉ pass := fun s hs h => hsnap s hs (List.mem_append_left _ h)
      have hcall : CallOK P f args' oin r oout := hp _ (by simp)
      have hH0 := HR0 (snap := frz ++ bor) H hob h2 hsp hdD
      have hA0 : RepTT (RepV w (own0 own (frz ++ bor) pass) (enumFrom 1000 oin)) args' vals :=
        mapTs_rep (R := RepV w own obl) (R' := RepV w (own0 own (frz ++ bor) pass) (enumFrom 1000 oin)) (fun x y u hx hy => argV_rep H hob h2 hsp (fun s hs => hs) hx hy) hargs h1
      refine (hcall w _ vals hH0 hA0).mono ?_
      rintro en w' ⟨v, own', rfl, T, H1, K, hr⟩
      obtain ⟨ml, ol, ms⟩ := backMap_spec hob h3
      obtain ⟨il, is⟩ := passObs_spec hob h2
      obtain ⟨d1, d2⟩ := deadObs_spec hob g3
      obtain ⟨wl, wk⟩ := backObs_len g2
      have hbor : bor = [] ∨ (r.noArr = true ∧ ∀ (k : Nat) o c, oout[k]? = some o → o.con = some c → ∀ e ∈ c.es, ∀ v ∈ e, v.noArr = true) := by
        cases bor with
        | nil => exact .inl rfl
        | cons s bs =>
          right
          simp only [borObs] at h4
          split at h4
          · rename_i hn
            injection h4 with h4
            refine ⟨hn, fun k o c hk hc => ?_⟩
            have := hp _ (List.mem_cons_of_mem _ (by rw [← h4]; exact List.mem_map.2 ⟨o, List.mem_of_getElem? hk, rfl⟩))
            simp only [hc] at this
            exact this
          · cases h4
      have hin : ∀ (k : Nat) t x, wo[k]? = some (t, x) → (pass ++ adopt)[k]? = some t := fun k t x hk => by
        obtain ⟨v0, v1, hm⟩ := wk k t x hk
        obtain ⟨_, _, _, h, _⟩ := ms k t v0 v1 hm
        exact h
      have B : Back w own obl w' own' frz bor pass adopt oin oout m (ups obl (dead ++ wo)) := {
        H := H, H1 := H1, K := K, T := T
        dFB := hdEF
        dFP := fun s hs => hsnap s (List.mem_append_left _ hs)
        dBP := fun s hs => hsnap s (List.mem_append_right _ hs)
        inj := distinct_inj hpa
        mlen := ml, olen := ol, mspec := ms
        inspec := ⟨il, fun k s hk => by
          obtain ⟨o', h1, h2⟩ := is k s hk
          exact ⟨o', h1, (mapOb_spec h2).1⟩⟩
        ge := geVers_spec g4
        lkT := fun k o t v0 v1 hk hm => by
          obtain ⟨o', ho', hwk⟩ := backObs_spec g2 k o t v0 v1 hk hm
          refine ⟨o', ho', lk_dead_wo (List.mem_of_getElem? hwk) fun y hy => ?_⟩
          obtain ⟨k', hk'⟩ := List.getElem?_of_mem hy
          have := distinct_inj hpa k k' t (hin k t _ hwk) (hin k' t y hk')
          subst this
          rw [hwk] at hk'
          injection hk' with hk'
          injection hk' with _ hk'
          exact hk'.symm
        lkF := fun s hs => by
          rw [lk_ups]
          cases hf : fnd (dead ++ wo) s with
          | none =>
            obtain ⟨x, hx⟩ := d2 s hs
            exact absurd (List.mem_append_left _ hx) (fnd_none hf x)
          | some y =>
            rcases List.mem_append.1 (fnd_some hf) with h | h
            · rw [(d1 s y h).2]; rfl
            · obtain ⟨k, hk⟩ := List.getElem?_of_mem h
              exact absurd (List.mem_of_getElem? (hin k s y hk)) (hsnap s (List.mem_append_left _ hs))
        lkO := fun s hf hpp => by
          rw [lk_ups]
          cases hq : fnd (dead ++ wo) s with
          | none => rfl
          | some y =>
            rcases List.mem_append.1 (fnd_some hq) with h | h
            · exact absurd (d1 s y h).1 hf
            · obtain ⟨k, hk⟩ := List.getElem?_of_mem h
              exact absurd (List.mem_of_getElem? (hin k s y hk)) hpp }
      exact ⟨v, _, rfl, B.trans, B.hr (hbor.imp id fun h => h.2), B.keep, backT_rep (bor := bor) (R := RepV w' own' (enumFrom 1000 oout)) (R' := RepV w' (own2 w.heap.size own own' frz bor pass adopt) (ups obl (dead ++ wo))) (fun x y u hx hy hb => B.rep hx hy hb) hr g1 (hbor.imp id fun h => h.1)⟩
    · cases he
  · cases he

end
end Go.Abs
