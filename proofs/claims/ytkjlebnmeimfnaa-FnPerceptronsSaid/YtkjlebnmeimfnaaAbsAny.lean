import Derived.Test.YtkjlebnmeimfnaaAbsOrder
namespace Go.Abs

def dW : List Oper → List Eff → Nat → List (Option T)
  | o :: l, e :: es, t => (if o.dst = some t then some e.dst else none) :: dW l es t
  | _, _, _ => []
def sW : List Oper → List Eff → Nat → List (Option Ob)
  | _ :: l, e :: es, s => fnd e.wo s :: sW l es s
  | _, _, _ => []

theorem dW_get : ∀ {l : List Oper} {es : List Eff} {i : Nat} {o : Oper} {e : Eff} {t : Nat}, l[i]? = some o → es[i]? = some e → (dW l es t)[i]? = some (if o.dst = some t then some e.dst else none)
  | [], _, i, o, e, t, h, _ => by simp at h
  | o0 :: l, [], i, o, e, t, _, h => by simp at h
  | o0 :: l, e0 :: es, 0, o, e, t, h, h' => by simp at h h'; subst h h'; simp [dW]
  | o0 :: l, e0 :: es, i + 1, o, e, t, h, h' => by simp at h h'; simpa [dW] using dW_get h h'
theorem sW_get : ∀ {l : List Oper} {es : List Eff} {i : Nat} {o : Oper} {e : Eff} {s : Nat}, l[i]? = some o → es[i]? = some e → (sW l es s)[i]? = some (fnd e.wo s)
  | [], _, i, o, e, t, h, _ => by simp at h
  | o0 :: l, [], i, o, e, t, _, h => by simp at h
  | o0 :: l, e0 :: es, 0, o, e, t, h, h' => by simp at h h'; subst h h'; simp [sW]
  | o0 :: l, e0 :: es, i + 1, o, e, t, h, h' => by simp at h h'; simpa [sW] using sW_get h h'
theorem dW_inv : ∀ {l : List Oper} {es : List Eff} {i : Nat} {t : Nat} {x : Option T}, (dW l es t)[i]? = some x → ∃ o e, l[i]? = some o ∧ es[i]? = some e
  | [], _, i, t, x, h => by simp [dW] at h
  | o0 :: l, [], i, t, x, h => by simp [dW] at h
  | o0 :: l, e0 :: es, 0, t, x, h => ⟨o0, e0, rfl, rfl⟩
  | o0 :: l, e0 :: es, i + 1, t, x, h => by simp [dW] at h; simpa using dW_inv h
theorem sW_inv : ∀ {l : List Oper} {es : List Eff} {i : Nat} {t : Nat} {x : Option Ob}, (sW l es t)[i]? = some x → ∃ o e, l[i]? = some o ∧ es[i]? = some e
  | [], _, i, t, x, h => by simp [sW] at h
  | o0 :: l, [], i, t, x, h => by simp [sW] at h
  | o0 :: l, e0 :: es, 0, t, x, h => ⟨o0, e0, rfl, rfl⟩
  | o0 :: l, e0 :: es, i + 1, t, x, h => by simp [sW] at h; simpa using sW_inv h

theorem lastW_shift {α : Type} : ∀ (l : List (Option α)) (S : Nat → Bool) (k : Nat) (x : α), lastW l S (k + 1) x = lastW l (fun n => S (n + 1)) k x
  | [], S, k, x => rfl
  | o :: l, S, k, x => by simp only [lastW]; exact lastW_shift l S (k + 1) _

/-- a state, by places: what was last written there by the operations of a set -/
structure Eqv (ops : List Oper) (es : List Eff) (S : Nat → Bool) (st si : St) : Prop where
  len : si.sl.length = st.sl.length
  rd : ∀ t, t < st.sl.length → si.rd t = lastW (dW ops es t) S 0 (st.rd t)
  out : ∀ t, st.sl.length ≤ t → si.rd t = .undef
  lk : ∀ s, lk si.ob s = lastW (sW ops es s) S 0 (lk st.ob s)

theorem rd_out {st : St} {t : Nat} (h : st.sl.length ≤ t) : st.rd t = .undef := by
  unfold St.rd
  rw [List.getD_eq_getElem?_getD, List.getElem?_eq_none h]; rfl

theorem Eqv.start {ops : List Oper} {es : List Eff} {S : Nat → Bool} {st : St} (h : ∀ j, j < ops.length → S j = false) : Eqv ops es S st st where
  len := rfl
  rd t _ := by
    rw [lastW_const]
    intro j o hj hs
    obtain ⟨o', e', h1, _⟩ := dW_inv hj
    rw [h _ (by have := (List.getElem?_eq_some_iff.1 h1).1; omega)] at hs; cases hs
  out t h := rd_out h
  lk s := by
    rw [lastW_const]
    intro j o hj hs
    obtain ⟨o', e', h1, _⟩ := sW_inv hj
    rw [h _ (by have := (List.getElem?_eq_some_iff.1 h1).1; omega)] at hs; cases hs

theorem Eqv.cons {o : Oper} {e : Eff} {ops : List Oper} {es : List Eff} {S S' : Nat → Bool} {st si : St} (h : Eqv ops es S (putE st o e) si) (h0 : S' 0 = true) (hS : ∀ n, S' (n + 1) = S n) : Eqv (o :: ops) (e :: es) S' st si where
  len := by rw [h.len, putE_len]
  rd t ht := by
    rw [h.rd t (by rw [putE_len]; exact ht), putE_rd]
    simp only [dW, lastW, h0]
    rw [lastW_shift]
    have : (fun n => S' (n + 1)) = S := funext hS
    rw [this]
    by_cases hd : o.dst = some t
    · rw [if_pos ⟨hd, ht⟩, if_pos hd]; rfl
    · rw [if_neg (fun h => hd h.1), if_neg hd]; rfl
  out t ht := h.out t (by rw [putE_len]; exact ht)
  lk s := by
    rw [h.lk s, putE_lk]
    simp only [sW, lastW, h0]
    rw [lastW_shift]
    have : (fun n => S' (n + 1)) = S := funext hS
    rw [this]

section
variable {P : Program} {CO : CallP}

/-- the run in the text's order, operation by operation -/
structure Step (CO : CallP) (P : Program) (ops all : List Oper) (chs : List (Nat × Ch)) (k : Nat) (st : St) (es : List Eff) (fps : List Fp) (i : Nat) (o : Oper) (si : St) (e : Eff) (f : Fp) : Prop where
  he : es[i]? = some e
  hf : fps[i]? = some f
  foot : f = footOf all si.rd o (chAt chs (k + i))
  run : effM CO P all (maskRd si f.rs) (maskOb si f.sites) o (chAt chs (k + i)) = some e
  eqv : Eqv ops es (fun n => decide (n < i)) st si

theorem runOps_seq {all : List Oper} {chs : List (Nat × Ch)} : ∀ (l : List Oper) (k : Nat) (st st' : St) (p : List Prop) (fps : List Fp), runOps CO P all chs l k st = some (p, st', fps) →
    ∃ es, es.length = l.length ∧ fps.length = l.length ∧ (∀ i o, l[i]? = some o → ∃ si e f, Step CO P l all chs k st es fps i o si e f) ∧ Eqv l es (fun _ => true) st st' ∧ ∀ e ∈ es, ∀ q ∈ e.obs, q ∈ p
  | [], k, st, st', p, fps, h => by
    simp only [runOps, Option.some.injEq, Prod.mk.injEq] at h
    obtain ⟨rfl, rfl, rfl⟩ := h
    exact ⟨[], rfl, rfl, fun i o h => by simp at h, Eqv.start (fun j hj => by cases hj), fun e he => by cases he⟩
  | o :: l, k, st, st', p, fps, h => by
    simp only [runOps] at h
    split at h
    · cases h
    · rename_i e fp he
      split at h
      · rename_i p' st'' fps' hr
        injection h with h
        injection h with h1 h2
        injection h2 with h2 h3
        subst h1 h2 h3
        obtain ⟨es, h1, h2, h3, h4, h5⟩ := runOps_seq l (k + 1) _ _ _ _ hr
        unfold effOp at he
        dsimp only at he
        obtain ⟨e', he2, heq⟩ := Option.map_eq_some_iff.1 he
        injection heq with e1 e2
        subst e1 e2
        refine ⟨e' :: es, by simp [h1], by simp [h2], fun i o' ho => ?_, h4.cons rfl fun _ => rfl, ?_⟩
        · cases i with
          | zero =>
            simp at ho; subst ho
            exact ⟨st, e', _, rfl, rfl, rfl, he2, Eqv.start fun j hj => by simp⟩
          | succ i =>
            simp at ho
            obtain ⟨si, e, f, S⟩ := h3 i o' ho
            refine ⟨si, e, f, by simpa using S.he, by simpa using S.hf, ?_, ?_, S.eqv.cons (by simp) fun n => by simp⟩
            · rw [show k + (i + 1) = k + 1 + i by omega]; exact S.foot
            · rw [show k + (i + 1) = k + 1 + i by omega]; exact S.run
        · intro e he q hq
          rcases List.mem_cons.1 he with rfl | he
          · exact List.mem_append_left _ hq
          · exact List.mem_append_right _ (h5 e he q hq)
      · cases h

theorem foot_wo {all : List Oper} {o : Oper} {ch : Ch} {si : St} {e : Eff} {f : Fp} (hf : f = footOf all si.rd o ch) (h : effM CO P all (maskRd si f.rs) (maskOb si f.sites) o ch = some e) (s : Nat) (hs : fnd e.wo s ≠ none) : s ∈ f.sites ∧ f.wr = true := by
  have F := effM_foot h
  have hmem : ∃ x, (s, x) ∈ e.wo := by
    cases hx : fnd e.wo s with
    | none => exact absurd hx hs
    | some x => exact ⟨x, fnd_some hx⟩
  obtain ⟨x, hx⟩ := hmem
  refine ⟨?_, ?_⟩
  · have := F.1 _ hx
    unfold maskOb at this
    split at this
    · rename_i hh; exact hasN_iff.1 hh
    · exact absurd rfl this
  · have hw : f.wr = (isWriter o.op || isFrz ch) := by rw [hf]; rfl
    rw [hw]
    cases hb : (isWriter o.op || isFrz ch) with
    | true => rfl
    | false => rw [F.2 hb] at hx; cases hx
end

section
variable {P : Program} {ops : List Oper} {Q : Exit → Act → World → Prop}

structure Drawn (P : Program) (ops : List Oper) (chs : List (Nat × Ch)) (st : St) (es : List Eff) (fps : List Fp) : Prop where
  elen : es.length = ops.length
  flen : fps.length = ops.length
  step : ∀ i o, ops[i]? = some o → ∃ si e f, Step (CallOK P) P ops ops chs 0 st es fps i o si e f
  obs : ∀ e ∈ es, ∀ q ∈ e.obs, q
  check : ∀ j f m, fps[j]? = some f → (ancs ops [])[j]? = some m → ∀ i g, fps[i]? = some g → i < j → Nat.testBit m i = true ∨ indep g f = true
  back : ∀ i o, ops[i]? = some o → ∀ e ∈ o.after, Region.binds .any e = true → e.on < i

theorem anc_some {ops : List Oper} {i : Nat} (h : i < ops.length) : ∃ m, (ancs ops [])[i]? = some m := by
  obtain ⟨ext, h1, h2, _⟩ := ancs_spec ops []
  rw [h1, List.nil_append]
  exact ⟨_, List.getElem?_eq_getElem (by omega)⟩

/-- what stands unlisted and before, or listed and behind, is apart -/
theorem Drawn.apart {chs : List (Nat × Ch)} {st : St} {es : List Eff} {fps : List Fp} (D : Drawn P ops chs st es fps) {S : Nat → Bool} (hS : Closed ops S) {i : Nat} {o : Oper} {f : Fp} (ho : ops[i]? = some o) (hf : fps[i]? = some f)
    (hi : S i = false) (hr : ∀ e ∈ o.after, Region.binds .any e = true → S e.on = true) {j : Nat} {g : Fp} (hg : fps[j]? = some g) (hne : S j ≠ decide (j < i)) (hji : j ≠ i) : Indep g f ∨ Indep f g := by
  have hjl : j < ops.length := by rw [← D.flen]; exact (List.getElem?_eq_some_iff.1 hg).1
  have hil : i < ops.length := (List.getElem?_eq_some_iff.1 ho).1
  rcases Nat.lt_or_gt_of_ne hji with hlt | hgt
  · obtain ⟨m, hm⟩ := anc_some hil
    rcases D.check i f m hf hm j g hg hlt with hb | hb
    · have := anc_ready hS ho hm hr hb
      rw [this] at hne
      simp [hlt] at hne
    · exact .inl (indep_spec hb)
  · obtain ⟨m, hm⟩ := anc_some hjl
    have hsj : S j = true := by
      have : decide (j < i) = false := by simp; omega
      rw [this] at hne
      simpa using hne
    rcases D.check j g m hg hm i f hf hgt with hb | hb
    · have := anc_closed hS j m i hm hsj hb
      rw [hi] at this; cases this
    · exact .inr (indep_spec hb)

theorem Indep.symm {a b : Fp} (h : Indep a b) : Indep b a where
  ab := h.ba
  ba := h.ab
  dd d e hd he := fun hh => h.dd e d he hd hh.symm
  ss := h.ss.imp (fun h => ⟨h.2, h.1⟩) fun h s hs hs' => h s hs' hs

theorem any_step {chs : List (Nat × Ch)} {st : St} {es : List Eff} {fps : List Fp} (D : Drawn P ops chs st es fps) {S : Nat → Bool} (hS : Closed ops S) {stS : St} (E : Eqv ops es S st stS)
    {i : Nat} {o : Oper} (ho : ops[i]? = some o) (hi : S i = false) (hr : ∀ e ∈ o.after, Region.binds .any e = true → S e.on = true) :
    ∃ (e : Eff) (f : Fp), es[i]? = some e ∧ effM (CallOK P) P ops (maskRd stS f.rs) (maskOb stS f.sites) o (chAt chs i) = some e ∧ Eqv ops es (fun n => S n || Nat.beq n i) st (putE stS o e) := by
  obtain ⟨si, e, f, X⟩ := D.step i o ho
  have hch : chAt chs (0 + i) = chAt chs i := by rw [Nat.zero_add]
  have Xr := X.run
  have Xf := X.foot
  rw [hch] at Xr Xf
  have hd : f.d = o.dst := by rw [Xf]; rfl
  have hother : ∀ j, j ≠ i → S j ≠ decide (j < i) → ∀ o' e', ops[j]? = some o' → es[j]? = some e' → ∃ g sj, Indep g f ∧ g.d = o'.dst ∧ (∀ s, fnd e'.wo s ≠ none → s ∈ g.sites ∧ g.wr = true) ∧ fps[j]? = some g ∧ sj = si := by
    intro j hji hne o' e' ho' he'
    obtain ⟨sj, e'', g, Y⟩ := D.step j o' ho'
    have : e'' = e' := by have := Y.he; rw [he'] at this; injection this with this; exact this.symm
    subst this
    refine ⟨g, si, ?_, by rw [Y.foot]; rfl, foot_wo Y.foot Y.run, Y.hf, rfl⟩
    exact (D.apart hS ho X.hf hi hr Y.hf hne hji).elim id Indep.symm
  have hrd : ∀ t, t ∈ f.rs → stS.rd t = si.rd t := by
    intro t ht
    by_cases hl : t < st.sl.length
    · rw [E.rd t hl, X.eqv.rd t hl]
      refine lastW_same _ _ _ 0 _ fun j x hj hne => ?_
      rw [Nat.zero_add] at hne
      obtain ⟨o', e', h1, h2⟩ := dW_inv hj
      by_cases hji : j = i
      · subst hji; rw [hi] at hne; simp at hne
      · obtain ⟨g, _, I, hg, _⟩ := hother j hji hne o' e' h1 h2
        rw [dW_get h1 h2] at hj
        injection hj with hj
        rw [← hj, if_neg]
        intro hdt
        exact I.ab t (by rw [hg]; exact hdt) ht
    · rw [E.out t (by omega), X.eqv.out t (by omega)]
  have hob : ∀ s, s ∈ f.sites → lk stS.ob s = lk si.ob s := by
    intro s hs
    rw [E.lk s, X.eqv.lk s]
    refine lastW_same _ _ _ 0 _ fun j x hj hne => ?_
    rw [Nat.zero_add] at hne
    obtain ⟨o', e', h1, h2⟩ := sW_inv hj
    by_cases hji : j = i
    · subst hji; rw [hi] at hne; simp at hne
    · obtain ⟨g, _, I, hg, hw, _⟩ := hother j hji hne o' e' h1 h2
      rw [sW_get h1 h2] at hj
      injection hj with hj
      rw [← hj]
      cases hx : fnd e'.wo s with
      | none => rfl
      | some y =>
        obtain ⟨w1, w2⟩ := hw s (by rw [hx]; simp)
        rcases I.ss with h | h
        · rw [h.1] at w2; cases w2
        · exact absurd hs (h s w1)
  have e1 : maskRd stS f.rs = maskRd si f.rs := by
    funext t
    unfold maskRd
    cases hh : hasN f.rs t with
    | true => exact hrd t (hasN_iff.1 hh)
    | false => rfl
  have e2 : maskOb stS f.sites = maskOb si f.sites := by
    funext s
    unfold maskOb
    cases hh : hasN f.sites s with
    | true => simp only [hob s (hasN_iff.1 hh)]
    | false => rfl
  have hlater : ∀ j, i < j → S j = true → S j ≠ decide (j < i) := fun j hij hs => by rw [hs]; simp; omega
  refine ⟨e, f, X.he, by rw [e1, e2]; exact Xr, ⟨by rw [putE_len]; exact E.len, fun t ht => ?_, fun t ht => ?_, fun s => ?_⟩⟩
  · have := lastW_insert (dW ops es t) S 0 i (st.rd t) _ (dW_get ho X.he) (by rwa [Nat.zero_add]) (fun j o' hj hij hsj hne => by
      rw [Nat.zero_add] at hsj
      obtain ⟨o2, e', h1, h2⟩ := dW_inv hj
      obtain ⟨g, _, I, hg, _⟩ := hother j (by omega) (hlater j hij hsj) o2 e' h1 h2
      rw [dW_get h1 h2] at hj
      injection hj with hj
      rw [← hj, if_neg]
      intro hdt
      by_cases hdo : o.dst = some t
      · exact I.dd t t (by rw [hg]; exact hdt) (by rw [hd]; exact hdo) rfl
      · rw [if_neg hdo] at hne; exact hne rfl)
    rw [Nat.zero_add] at this
    rw [this, putE_rd, ← E.rd t ht, E.len]
    by_cases hdo : o.dst = some t
    · rw [if_pos ⟨hdo, ht⟩, if_pos hdo]; rfl
    · rw [if_neg (fun h => hdo h.1), if_neg hdo]; rfl
  · rw [putE_rd, E.len, if_neg (by omega), E.out t ht]
  · have := lastW_insert (sW ops es s) S 0 i (lk st.ob s) _ (sW_get ho X.he) (by rwa [Nat.zero_add]) (fun j o' hj hij hsj hne => by
      rw [Nat.zero_add] at hsj
      obtain ⟨o2, e', h1, h2⟩ := sW_inv hj
      obtain ⟨g, _, I, hg, hw, _⟩ := hother j (by omega) (hlater j hij hsj) o2 e' h1 h2
      rw [sW_get h1 h2] at hj
      injection hj with hj
      rw [← hj]
      cases hx : fnd e'.wo s with
      | none => rfl
      | some y =>
        obtain ⟨w1, w2⟩ := hw s (by rw [hx]; simp)
        obtain ⟨v1, v2⟩ := foot_wo Xf Xr s hne
        rcases I.ss with h | h
        · rw [h.1] at w2; cases w2
        · exact absurd v1 (h s w1))
    rw [Nat.zero_add] at this
    rw [this, putE_lk, ← E.lk s]

def lst (listed : Array Bool) (n : Nat) : Bool := listed.getD n false

theorem lst_set {listed : Array Bool} {i : Nat} (hi : i < listed.size) : lst (listed.setIfInBounds i true) = fun n => lst listed n || Nat.beq n i := by
  funext n
  unfold lst
  by_cases h : i = n
  · subst h
    simp [hi]
  · rw [getD_set_ne false h]
    have : Nat.beq n i = false := by rw [← Bool.not_eq_true]; simpa using Ne.symm h
    rw [this, Bool.or_false]

theorem count_set {listed : Array Bool} {i : Nat} (hi : i < listed.size) (h : lst listed i = false) : (listed.setIfInBounds i true).toList.count false + 1 = listed.toList.count false := by
  unfold lst at h
  rw [Array.toList_setIfInBounds]
  have hl : listed.toList[i]? = some false := by
    rw [Array.getElem?_toList]
    simp [hi] at h ⊢
    exact h
  generalize listed.toList = l at hl
  clear hi h
  induction l generalizing i with
  | nil => simp at hl
  | cons b l ih =>
    cases i with
    | zero => simp at hl; subst hl; simp
    | succ i =>
      simp at hl
      have := ih hl
      cases b <;> simp [this] <;> omega

theorem wpAny_abs {chs : List (Nat × Ch)} {st st' : St} {es : List Eff} {fps : List Fp} (D : Drawn P ops chs st es fps) (E' : Eqv ops es (fun _ => true) st st') {w0 : World} {own0 : Nat → Own} {a0 : Act}
    (hQ : ∀ a' w' own', Sim st' w' own' a'.tmps → a'.defers = a0.defers → Way w0 own0 st.ob w' own' st'.ob → Q .normal a' w') :
    ∀ (fuel : Nat) (listed : Array Bool) (stS : St) (w : World) (own : Nat → Own) (a : Act), listed.size = ops.length → listed.toList.count false = fuel → Closed ops (lst listed) → Eqv ops es (lst listed) st stS →
      Sim stS w own a.tmps → a.defers = a0.defers → Way w0 own0 st.ob w own stS.ob → wpAny P .any ops.toArray Q fuel listed a w := by
  intro fuel
  have all : ∀ (listed : Array Bool), listed.size = ops.length → Closed ops (lst listed) → Region.ready .any ops.toArray listed = [] → ∀ i, i < ops.length → lst listed i = true := by
    intro listed hsz hS hr i
    induction i using Nat.strongRecOn with
    | _ i ih =>
      intro hi
      cases hx : lst listed i with
      | true => rfl
      | false =>
        have : i ∈ Region.ready .any ops.toArray listed := by
          rw [mem_ready]
          refine ⟨?_, ops[i], by simp [hi], fun e he hb => ?_⟩
          · unfold lst at hx
            have hl : i < listed.size := by omega
            simp [hl] at hx ⊢
            exact hx
          · have := D.back i _ (List.getElem?_eq_getElem hi) e he hb
            exact ih e.on this (by omega)
        rw [hr] at this; cases this
  have fin : ∀ (listed : Array Bool) (stS : St) (w : World) (own : Nat → Own) (a : Act), listed.size = ops.length → (∀ i, i < ops.length → lst listed i = true) → Eqv ops es (lst listed) st stS → Sim stS w own a.tmps → a.defers = a0.defers → Way w0 own0 st.ob w own stS.ob → Q .normal a w := by
    intro listed stS w own a hsz hall E SS hd K
    have hlk : ∀ s, lk st'.ob s = lk stS.ob s := ?_
    · refine hQ a w own (SS.congr (by rw [E'.len, E.len]) (fun t => ?_) hlk) hd (K.trans ⟨Keep.refl _ _, obs_congr fun s => (hlk s).symm⟩)
      by_cases hl : t < st.sl.length
      · rw [E'.rd t hl, E.rd t hl]
        refine lastW_same _ _ _ 0 _ fun j x hj hne => ?_
        obtain ⟨o', e', h1, h2⟩ := dW_inv hj
        rw [hall (0 + j) (by rw [Nat.zero_add]; exact (List.getElem?_eq_some_iff.1 h1).1)] at hne
        exact absurd rfl hne
      · rw [E'.out t (by omega), E.out t (by omega)]
    · intro s
      rw [E'.lk s, E.lk s]
      refine lastW_same _ _ _ 0 _ fun j x hj hne => ?_
      obtain ⟨o', e', h1, h2⟩ := sW_inv hj
      rw [hall (0 + j) (by rw [Nat.zero_add]; exact (List.getElem?_eq_some_iff.1 h1).1)] at hne
      exact absurd rfl hne
  induction fuel with
  | zero =>
    intro listed stS w own a hsz hc hS E SS hd K
    have hall : ∀ i, i < ops.length → lst listed i = true := by
      intro i hi
      rw [List.count_eq_zero] at hc
      have hl : i < listed.size := by omega
      unfold lst
      simp only [Array.getD_eq_getD_getElem?, Array.getElem?_eq_getElem hl, Option.getD_some]
      cases hx : listed[i] with
      | true => rfl
      | false => exact absurd (by rw [← hx]; simp) hc
    refine ⟨?_, fin listed stS w own a hsz hall E SS hd K⟩
    refine List.eq_nil_iff_forall_not_mem.2 fun i hi => ?_
    rw [mem_ready] at hi
    obtain ⟨h0, o, ho, _⟩ := hi
    have hil : i < ops.length := by simpa using (Array.getElem?_eq_some_iff.1 ho).1
    have := hall i hil
    unfold lst at this
    have hl : i < listed.size := by omega
    simp [hl] at h0 this
    rw [h0] at this; cases this
  | succ fuel ih =>
    intro listed stS w own a hsz hc hS E SS hd K
    refine ⟨fun hr => fin listed stS w own a hsz (all listed hsz hS hr) E SS hd K, fun i hi => ?_⟩
    rw [mem_ready] at hi
    obtain ⟨h0, o, ho, hr⟩ := hi
    have hoL : ops[i]? = some o := by simpa using ho
    have hil : i < ops.length := (List.getElem?_eq_some_iff.1 hoL).1
    have hl : i < listed.size := by omega
    have hli : lst listed i = false := by
      unfold lst
      simp [hl] at h0 ⊢
      exact h0
    obtain ⟨e, f, he, hrun, hE⟩ := any_step D hS E hoL hli hr
    unfold wpOp
    simp only [ho]
    refine step_sound (ops := ops) SS (mask_rd _ _) (mask_ob _ _) hrun (D.obs e (List.mem_of_getElem? he)) ?_
    intro v w' own' S' K'
    refine ih _ _ w' own' _ (by simp [hsz]) ?_ ?_ (by rw [lst_set hl]; exact hE) S' ?_ (K.trans K')
    · have := count_set hl hli
      omega
    · rw [lst_set hl]
      intro j o' ho' hj e' he' hb
      simp only [Bool.or_eq_true] at hj ⊢
      rcases hj with hj | hj
      · exact .inl (hS j o' ho' hj e' he' hb)
      · have : j = i := by simpa using hj
        subst this
        rw [hoL] at ho'
        injection ho' with ho'
        subst ho'
        exact .inl (hr e' he' hb)
    · rw [← hd]
      unfold Act.put
      cases o.dst <;> rfl
end

/-- what lies in memory alone counts -/
theorem Sim.heap {st : St} {w w' : World} {own : Nat → Own} {tmps : Array Value} (S : Sim st w own tmps) (h : w'.heap = w.heap) : Sim st w' own tmps := by
  have T : Trans w own st.ob w' own st.ob := ⟨fun a v h1 h2 => ⟨h1, by unfold World.cell? at *; rw [h]; exact h2⟩, fun s => ⟨Nat.le_refl _, fun c' hc => ⟨c', hc, rfl, rfl, fun b hb => ⟨hb, by unfold bsz; rw [h]⟩⟩⟩⟩
  refine ⟨⟨fun s v c hc => ?_, fun b hb => S.1.fresh b (by rw [← h]; exact hb)⟩, S.2.1, fun t => (S.2.2 t).mono fun x u hx => RepV.trans T hx⟩
  rcases S.1.blk s v c hc with hemp | ⟨b, cells, B⟩
  · exact .inl hemp
  right
  exact ⟨b, cells, B.owned, B.only, by rw [h]; exact B.heap, B.len, B.room, fun i e j x h1 h2 => by
    obtain ⟨u, hu, hr⟩ := B.rep i e j x h1 h2
    exact ⟨u, hu, RepC.trans T hr⟩⟩

section
variable {P : Program} {Q : Exit → Act → World → Prop}
theorem region_sound (hm : P.follows .mixedOrders = true) {id : Nat} {ops : Array Oper} {draw : Bool} {chs : List (Nat × Ch)} {st st' : St} {p : List Prop} (h : runRegion (CallOK P) P ops draw chs st = some (p, st')) (hp : ∀ q ∈ p, q)
    {w : World} {own : Nat → Own} {a : Act} (S : Sim st w own a.tmps) (hQ : ∀ a' w' own', Sim st' w' own' a'.tmps → a'.defers = a.defers → Way w own st.ob w' own' st'.ob → Q .normal a' w') : (Code.region id ops draw).wp P Q a w := by
  unfold runRegion at h
  split at h
  · cases h
  · rename_i p0 st0 fps hr
    split at h
    · simp only [Option.some.injEq, Prod.mk.injEq] at h
      obtain ⟨rfl, rfl⟩ := h
      refine wp_region_list ?_
      exact runOps_sound ops.toList 0 st _ _ _ w own a hr hp S hQ
    · split at h
      · rename_i hc
        simp only [Option.some.injEq, Prod.mk.injEq] at h
        obtain ⟨rfl, rfl⟩ := h
        simp only [Bool.and_eq_true] at hc
        obtain ⟨es, h1, h2, h3, h4, h5⟩ := runOps_seq ops.toList 0 st _ _ _ hr
        refine wp_region_any hm ?_
        have hb := allBack_spec hc.2
        have D : Drawn P ops.toList chs st es fps := ⟨h1, h2, h3, fun e he q hq => hp q (h5 e he q hq), fun j f m hf hmm i g hg hij => checkDraw_spec hc.1 j f m hf hmm i g hg (by simpa using hij), fun i o ho e he hbb => by have := hb i o ho e he hbb; omega⟩
        have := wpAny_abs (Q := Q) D h4 (w0 := { w with drawn := w.drawn + 1 }) (own0 := own) (a0 := a) (fun a' w' own' S' hd K => hQ a' w' own' S' hd ⟨⟨K.1.os, K.1.tape, K.1.output, K.1.size, K.1.old, K.1.free, K.1.outer⟩, ⟨K.2.free, K.2.site⟩⟩) ops.size (Array.replicate ops.size false) st { w with drawn := w.drawn + 1 } own a
          (by simp) (by simp) (fun j o ho hj => by unfold lst at hj; by_cases hjl : j < ops.size <;> simp [hjl] at hj) (Eqv.start fun j hj => by unfold lst; by_cases hjl : j < ops.size <;> simp [hjl]) (S.heap rfl) rfl (Way.refl _ _ _)
        exact this
      · cases h
end
end Go.Abs
