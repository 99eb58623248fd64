import Derived.Test.YtkjlebnmeimfnaaAbsAny
import Derived.LoopN
namespace Go.Abs

/-- what a piece of code keeps -/
structure WayI (w : World) (own : Nat → Own) (ob : Obs) (w' : World) (own' : Nat → Own) (ob' : Obs) : Prop where
  keep : Keep w own w' own'
  free : ∀ a v, own a.block = .free → w.cell? a = some v → own' a.block = .free ∧ w'.cell? a = some v
  site : ∀ s, 1000 ≤ s → (lk ob s).ver ≤ (lk ob' s).ver ∧ ∀ c', lk ob' s = ⟨(lk ob s).ver, some c'⟩ → ∃ c, lk ob s = ⟨(lk ob s).ver, some c⟩ ∧ c'.sz = c.sz ∧ c'.es.length = c.es.length ∧
    ∀ b, own b = .at s → own' b = .at s ∧ bsz w' b = bsz w b

theorem Way.toI {w own ob w' own' ob'} (h : Way w own ob w' own' ob') : WayI w own ob w' own' ob' := ⟨h.keep, h.trans_.free, fun s _ => h.trans_.site s⟩
theorem WayI.refl (w own ob) : WayI w own ob w own ob := (Way.refl w own ob).toI
theorem WayI.comp {w own ob w1 own1 ob1 w2 own2 ob2} (h : WayI w own ob w1 own1 ob1) (k : WayI w1 own1 ob1 w2 own2 ob2) : WayI w own ob w2 own2 ob2 where
  keep := h.keep.trans k.keep
  free a v h1 h2 := by
    obtain ⟨g1, g2⟩ := h.free a v h1 h2
    exact k.free a v g1 g2
  site s hs := by
    obtain ⟨h1, h2⟩ := h.site s hs
    obtain ⟨k1, k2⟩ := k.site s hs
    refine ⟨Nat.le_trans h1 k1, fun c' hc => ?_⟩
    have e : (lk ob1 s).ver = (lk ob s).ver := by
      rw [hc] at k1
      exact Nat.le_antisymm k1 h1
    obtain ⟨c1, e1, e2, e3, e4⟩ := k2 c' (by rw [e]; exact hc)
    rw [e] at e1
    obtain ⟨c, f1, f2, f3, f4⟩ := h2 c1 e1
    refine ⟨c, f1, e2.trans f2, e3.trans f3, fun b hb => ?_⟩
    obtain ⟨g1, g2⟩ := f4 b hb
    obtain ⟨g3, g4⟩ := e4 b g1
    exact ⟨g3, g4.trans g2⟩

theorem beq_ne {a b : Nat} (h : Nat.beq a b = false) : a ≠ b := by
  intro e
  subst e
  simp at h

/-! what is forgotten -/
section
variable {st : St} {w : World} {own : Nat → Own} {slots sites : List Nat}

def verL (sites : List Nat) (st : St) : List (Nat × Nat) := sites.map fun s => (s, (lk st.ob s).ver)

theorem verL_lookup {s v : Nat} : ∀ {sites : List Nat}, (verL sites st).lookup s = some v → s ∈ sites ∧ v = (lk st.ob s).ver
  | [], h => by simp [verL] at h
  | t :: r, h => by
    unfold verL at h
    rw [List.map_cons, List.lookup_cons] at h
    split at h
    · rename_i hb
      have : s = t := by simpa using hb
      subst this
      injection h with h
      exact ⟨List.mem_cons_self .., h.symm⟩
    · obtain ⟨h1, h2⟩ := verL_lookup (sites := r) h
      exact ⟨List.mem_cons_of_mem _ h1, h2⟩

theorem lk_map {f : Nat → Ob} {s : Nat} : ∀ {l : List Nat}, lk (l.map fun s => (s, f s)) s = if s ∈ l then f s else ⟨0, none⟩
  | [] => by simp [lk]
  | t :: r => by
    rw [List.map_cons]
    unfold lk
    split
    · rename_i hb
      have : t = s := by simpa using hb
      subst this
      simp
    · rename_i hb
      have hne : t ≠ s := beq_ne hb
      rw [lk_map (l := r)]
      simp [Ne.symm hne]

theorem proj_lk (s : Nat) : lk (proj slots sites st).ob s = if s ∈ sites then okOb (verL sites st) s (lk st.ob s) else ⟨0, none⟩ := lk_map

theorem okOb_con {l : List (Nat × Nat)} {s : Nat} {o : Ob} {c' : Con} (h : (okOb l s o).con = some c') :
    ∃ c, o.con = some c ∧ c'.ty = c.ty ∧ c'.sz = c.sz ∧ c'.flat = c.flat ∧ c'.es.length = c.es.length ∧
      ∀ (i : Nat) (e' : List V), c'.es[i]? = some e' → ∃ e : List V, c.es[i]? = some e ∧ e'.length = e.length ∧ ∀ (j : Nat) y, e'[j]? = some y → ∃ x, e[j]? = some x ∧ (if c.flat then y = x else y = okV l x) := by
  unfold okOb at h
  dsimp only at h
  split at h
  · rename_i c hc
    split at h
    · rename_i hf
      injection h with h; subst h
      exact ⟨c, hc, rfl, rfl, rfl, rfl, fun i e' he => ⟨e', he, rfl, fun j y hy => ⟨y, hy, by rw [hf]; simp⟩⟩⟩
    · rename_i hf
      injection h with h; subst h
      refine ⟨c, hc, rfl, rfl, hf.symm, by simp, fun i e' he => ?_⟩
      simp only [List.getElem?_map] at he
      obtain ⟨e, h1, h2⟩ := Option.map_eq_some_iff.1 he
      subst h2
      refine ⟨e, h1, by simp, fun j y hy => ?_⟩
      simp only [List.getElem?_map] at hy
      obtain ⟨x, h3, h4⟩ := Option.map_eq_some_iff.1 hy
      exact ⟨x, h3, by rw [hf]; simpa using h4.symm⟩
  · cases h

theorem nv_mono {s a : Nat} : nv s a ≤ nv s a := Nat.le_refl _

theorem okV_rep {x : V} {u : Value} (h : RepV w own st.ob x u) : RepV w own (proj slots sites st).ob (okV (verL sites st) x) u := by
  cases x with
  | ref s v =>
    simp only [okV]
    split
    · rename_i v' hl
      split
      · rename_i hb
        have hv : v = v' := by simpa using hb
        obtain ⟨hm, hv'⟩ := verL_lookup hl
        subst hv
        refine ⟨h.1, ?_, fun c' hc' => ?_⟩
        · rw [proj_lk, if_pos hm]
          show nv s v ≤ nv s _
          rw [hv']; exact Nat.le_refl _
        · rw [proj_lk, if_pos hm] at hc'
          obtain ⟨c, h1, h2, h3, h4, h5, _⟩ := okOb_con (l := verL sites st) (s := s) (o := lk st.ob s) (c' := c') (by rw [hc'])
          rcases h.2.2 c (by rw [hv', ← h1]) with ⟨hn, hxn⟩ | ⟨b, cap, rfl, g1, g2, g3, g4⟩
          · exact .inl ⟨List.eq_nil_of_length_eq_zero (by rw [h5, hn]; rfl), hxn⟩
          exact .inr ⟨b, cap, by rw [h5], g1, by rw [h3]; exact g2, by rw [h5]; exact g3, g4⟩
      · trivial
    · trivial
  | ptr s v i off =>
    simp only [okV]
    split
    · rename_i v' hl
      split
      · rename_i hb
        have hv : v = v' := by simpa using hb
        obtain ⟨hm, hv'⟩ := verL_lookup hl
        subst hv
        refine ⟨h.1, ?_, fun c' hc' => ?_⟩
        · rw [proj_lk, if_pos hm]
          show nv s v ≤ nv s _
          rw [hv']; exact Nat.le_refl _
        · rw [proj_lk, if_pos hm] at hc'
          obtain ⟨c, h1, h2, h3, h4, h5, _⟩ := okOb_con (l := verL sites st) (s := s) (o := lk st.ob s) (c' := c') (by rw [hc'])
          obtain ⟨b, rfl, g1⟩ := h.2.2 c (by rw [hv', ← h1])
          exact ⟨b, by rw [h3], g1⟩
      · trivial
    · trivial
  | fn f cap => trivial
  | int k n => exact h
  | bool b => exact h
  | str b => exact h
  | nil => exact h
  | arr sz xs => exact h
  | ipt cs off => exact h
  | void => exact h
  | undef => trivial

theorem okT_rep {x : T} {u : Value} (h : RepT (RepV w own st.ob) x u) : RepT (RepV w own (proj slots sites st).ob) (okT (verL sites st) x) u := by
  cases x with
  | one v => exact okV_rep h
  | agg cs =>
    obtain ⟨us, rfl, h⟩ := h
    refine ⟨us, rfl, ?_⟩
    induction h with
    | nil => exact .nil
    | cons h1 _ ih => exact .cons (okV_rep h1) ih
  | tup ts => trivial

theorem projSl_len {l : List (Nat × Nat)} {keep : List Nat} : ∀ {ts : List T} {k : Nat}, (projSl l keep ts k).length = ts.length
  | [], k => rfl
  | t :: r, k => by simp [projSl, projSl_len (ts := r)]
theorem projSl_get {l : List (Nat × Nat)} {keep : List Nat} : ∀ {ts : List T} {k i : Nat} {x : T}, (projSl l keep ts k)[i]? = some x → ∃ t, ts[i]? = some t ∧ (x = okT l t ∨ x = .undef)
  | [], k, i, x, h => by simp [projSl] at h
  | t :: r, k, 0, x, h => by
    simp [projSl] at h
    subst h
    refine ⟨t, rfl, ?_⟩
    cases hasN keep k
    · exact .inr rfl
    · exact .inl rfl
  | t :: r, k, i + 1, x, h => by
    simp [projSl] at h
    simpa using projSl_get h

theorem Sim.proj {tmps : Array Value} (S : Sim st w own tmps) : Sim (proj slots sites st) w own tmps := by
  refine ⟨⟨fun s v c' hc => ?_, S.1.fresh⟩, ?_, fun t => ?_⟩
  · rw [proj_lk] at hc
    by_cases hm : s ∈ sites
    · rw [if_pos hm] at hc
      obtain ⟨c, h1, h2, h3, h4, h5, h6⟩ := okOb_con (l := verL sites st) (s := s) (o := lk st.ob s) (c' := c') (by rw [hc])
      rcases S.1.blk s _ c (show lk st.ob s = ⟨(lk st.ob s).ver, some c⟩ by rw [← h1]) with hemp | ⟨b, cells, B⟩
      · exact .inl ⟨List.eq_nil_of_length_eq_zero (by rw [h5, hemp.1]; rfl), hemp.2⟩
      right
      refine ⟨b, cells, B.owned, B.only, by rw [h2]; exact B.heap, fun e he => ?_, by rw [h5, h3]; exact B.room, fun i e j y he hy => ?_⟩
      · obtain ⟨i, hi⟩ := List.getElem?_of_mem he
        obtain ⟨e0, he0, hl, _⟩ := h6 i e hi
        rw [hl, h3]
        exact B.len e0 (List.mem_of_getElem? he0)
      · obtain ⟨e0, he0, _, hj⟩ := h6 i e he
        obtain ⟨x, hx, hxy⟩ := hj j y hy
        obtain ⟨q, hq, hr⟩ := B.rep i e0 j x he0 hx
        refine ⟨q, by rw [h3]; exact hq, ?_⟩
        rw [h4]
        cases hf : c.flat with
        | true =>
          rw [hf] at hxy hr
          simp at hxy; subst hxy
          exact hr
        | false =>
          rw [hf] at hxy hr
          simp at hxy; subst hxy
          exact okV_rep hr
    · rw [if_neg hm] at hc; cases hc
  · show tmps.size = (projSl _ _ _ _).length
    rw [projSl_len]; exact S.2.1
  · show RepT _ ((projSl _ _ _ _).getD t .undef) _
    rw [List.getD_eq_getElem?_getD]
    cases hx : (projSl (sites.map fun s => (s, (lk st.ob s).ver)) slots st.sl 0)[t]? with
    | none => exact trivial
    | some x =>
      obtain ⟨y, hy, h⟩ := projSl_get hx
      rcases h with rfl | rfl
      · have := S.2.2 t
        unfold St.rd at this
        rw [List.getD_eq_getElem?_getD, hy] at this
        exact okT_rep this
      · exact trivial

theorem keepsI_spec : ∀ {l : List (Nat × Ob)}, keepsI sites l = true → ∀ s, 1000 ≤ s → s ∉ sites → lk l s = ⟨0, none⟩
  | [], _, s, _, _ => rfl
  | (t, o) :: r, h, s, hs, hn => by
    unfold keepsI at h
    unfold lk
    split at h
    · rename_i hb
      split at h
      · rename_i hm
        have : Nat.beq t s = false := by
          rw [← Bool.not_eq_true]
          intro hh
          have : t = s := by simpa using hh
          subst this
          exact hn (hasN_iff.1 hm)
        rw [this]
        exact keepsI_spec h s hs hn
      · cases h
    · rename_i hb
      have : Nat.beq t s = false := by
        rw [← Bool.not_eq_true]
        intro hh
        have : t = s := by simpa using hh
        subst this
        have : Nat.ble 1000 t = true := by simpa using hs
        rw [this] at hb; cases hb
      rw [this]
      exact keepsI_spec h s hs hn

theorem WayI.proj (hk : keepsI sites st.ob = true) : WayI w own st.ob w own (proj slots sites st).ob := by
  refine ⟨Keep.refl _ _, fun a v h1 h2 => ⟨h1, h2⟩, fun s hs => ?_⟩
  have hb : Nat.ble 1000 s = true := by simpa using hs
  rw [proj_lk]
  by_cases hm : s ∈ sites
  · rw [if_pos hm]
    refine ⟨?_, fun c' hc => ?_⟩
    · show _ ≤ nv s _
      unfold nv; rw [hb]; exact Nat.le_refl _
    · obtain ⟨c, h1, h2, h3, h4, h5, h6⟩ := okOb_con (l := verL sites st) (s := s) (o := lk st.ob s) (c' := c') (by rw [hc])
      exact ⟨c, by rw [← h1], h3, h5, fun b hb => ⟨hb, rfl⟩⟩
  · rw [if_neg hm, keepsI_spec hk s hs hm]
    exact ⟨Nat.le_refl _, fun c' hc => by cases hc⟩
end

/-! code -/
def exitOf : AExit → Exit
  | .normal => .normal
  | .ret => .ret
  | .exit id => .exit id

def ExecOK (P : Program) (c : Code) (st : St) (e : AExit) (st' : St) : Prop :=
  ∀ (w : World) (own : Nat → Own) (a : Act), Sim st w own a.tmps → a.defers = [] → ∀ Q : Exit → Act → World → Prop,
    (∀ a' w' own', Sim st' w' own' a'.tmps → a'.defers = [] → WayI w own st.ob w' own' st'.ob → Q (exitOf e) a' w') → c.wp P Q a w

/-- a loop that is done within so many rounds -/
def LoopOK (P : Program) (body : Code) (n : Nat) (st : St) (e : AExit) (st' : St) : Prop :=
  ∀ (w : World) (own : Nat → Own) (a : Act), Sim st w own a.tmps → a.defers = [] → ∀ Q : Exit → Act → World → Prop,
    (∀ a' w' own', Sim st' w' own' a'.tmps → a'.defers = [] → WayI w own st.ob w' own' st'.ob → Q (exitOf e) a' w') → Code.rounds P body Q n a w

section
variable {P : Program}

theorem LoopOK.exec {body : Code} {n : Nat} {st st' : St} {e : AExit} (h : LoopOK P body n st e st') : ExecOK P (.loop body) st e st' :=
  fun w own a S hd Q hQ => wp_loop_rounds n (h w own a S hd Q hQ)

theorem runC_sound (hm : P.follows .mixedOrders = true) : ∀ (c : Code) (st : St) (sc : List Item) (p : List Prop) (e : AExit) (st' : St) (sc' : List Item), runC (CallOK P) (ExecOK P) P c st sc = some (p, e, st', sc') → (∀ q ∈ p, q) → ExecOK P c st e st' := by
  intro c
  induction c with
  | skip =>
    intro st sc p e st' sc' h hp
    simp only [runC, Option.some.injEq, Prod.mk.injEq] at h
    obtain ⟨rfl, rfl, rfl, rfl⟩ := h
    intro w own a S hd Q hQ
    exact wp_skip (hQ a w own S hd (WayI.refl _ _ _))
  | ret =>
    intro st sc p e st' sc' h hp
    simp only [runC, Option.some.injEq, Prod.mk.injEq] at h
    obtain ⟨rfl, rfl, rfl, rfl⟩ := h
    intro w own a S hd Q hQ
    exact wp_ret (hQ a w own S hd (WayI.refl _ _ _))
  | exit id =>
    intro st sc p e st' sc' h hp
    simp only [runC, Option.some.injEq, Prod.mk.injEq] at h
    obtain ⟨rfl, rfl, rfl, rfl⟩ := h
    intro w own a S hd Q hQ
    exact wp_exit (hQ a w own S hd (WayI.refl _ _ _))
  | region id ops draw =>
    intro st sc p e st' sc' h hp
    have key : ∀ chs sc0, (runRegion (CallOK P) P ops draw chs st).map (fun x => (x.1, AExit.normal, x.2, sc0)) = some (p, e, st', sc') → ExecOK P (.region id ops draw) st e st' := by
      intro chs sc0 h
      obtain ⟨⟨p0, st0⟩, h1, h2⟩ := Option.map_eq_some_iff.1 h
      simp only [Prod.mk.injEq] at h2
      obtain ⟨rfl, rfl, rfl, rfl⟩ := h2
      intro w own a S hd Q hQ
      exact region_sound hm h1 hp S fun a' w' own' S' hd' W => hQ a' w' own' S' (hd'.trans hd) W.toI
    unfold runC at h
    split at h
    · split at h
      · exact key _ _ h
      · exact key _ _ h
    · exact key _ _ h
  | seq x y ihx ihy =>
    intro st sc p e st' sc' h hp
    unfold runC at h
    split at h
    · rename_i p1 st1 sc1 h1
      split at h
      · rename_i q e2 st2 sc2 h2
        simp only [Option.some.injEq, Prod.mk.injEq] at h
        obtain ⟨rfl, rfl, rfl, rfl⟩ := h
        have H1 := ihx _ _ _ _ _ _ h1 fun q hq => hp q (List.mem_append_left _ hq)
        have H2 := ihy _ _ _ _ _ _ h2 fun q hq => hp q (List.mem_append_right _ hq)
        intro w own a S hd Q hQ
        refine wp_seq (H1 w own a S hd _ fun a1 w1 own1 S1 hd1 W1 => ?_)
        exact H2 w1 own1 a1 S1 hd1 Q fun a2 w2 own2 S2 hd2 W2 => hQ a2 w2 own2 S2 hd2 (W1.comp W2)
      · cases h
    · rename_i hne
      have H1 := ihx _ _ _ _ _ _ h hp
      intro w own a S hd Q hQ
      refine wp_seq (H1 w own a S hd _ fun a1 w1 own1 S1 hd1 W1 => ?_)
      cases e with
      | normal => exact absurd h (hne _ _ _)
      | ret => exact hQ a1 w1 own1 S1 hd1 W1
      | exit i => exact hQ a1 w1 own1 S1 hd1 W1
  | cond c x y ihx ihy =>
    intro st sc p e st' sc' h hp
    unfold runC at h
    split at h
    · rename_i b r
      split at h
      · rename_i v hv
        split at h
        · rename_i p1 e1 st1 sc1 h1
          simp only [Option.some.injEq, Prod.mk.injEq] at h
          obtain ⟨rfl, rfl, rfl, rfl⟩ := h
          have hvb : v = b := hp _ (List.mem_cons_self ..)
          have hp1 : ∀ q ∈ p1, q := fun q hq => hp q (List.mem_cons_of_mem _ hq)
          subst hvb
          intro w own a S hd Q hQ
          have hc : a.eval c = .bool v := rep_bool (obl := st.ob) (rdO_rep S.2.2 hv)
          refine wp_cond hc ?_
          cases v with
          | true => exact ihx _ _ _ _ _ _ h1 hp1 w own a S hd Q hQ
          | false => exact ihy _ _ _ _ _ _ h1 hp1 w own a S hd Q hQ
        · cases h
      · cases h
    · cases h
  | block id body ih =>
    intro st sc p e st' sc' h hp
    unfold runC at h
    split at h
    · rename_i p1 i st1 sc1 h1
      split at h
      · rename_i hi
        have hi : i = id := by simpa using hi
        subst hi
        simp only [Option.some.injEq, Prod.mk.injEq] at h
        obtain ⟨rfl, rfl, rfl, rfl⟩ := h
        have H1 := ih _ _ _ _ _ _ h1 hp
        intro w own a S hd Q hQ
        refine wp_block (H1 w own a S hd _ fun a1 w1 own1 S1 hd1 W1 => ?_)
        simp only [exitOf, Exit.inBlock, if_true]
        exact hQ a1 w1 own1 S1 hd1 W1
      · rename_i hi
        have hi : i ≠ id := beq_ne hi
        simp only [Option.some.injEq, Prod.mk.injEq] at h
        obtain ⟨rfl, rfl, rfl, rfl⟩ := h
        have H1 := ih _ _ _ _ _ _ h1 hp
        intro w own a S hd Q hQ
        refine wp_block (H1 w own a S hd _ fun a1 w1 own1 S1 hd1 W1 => ?_)
        simp only [exitOf, Exit.inBlock, hi, if_false]
        exact hQ a1 w1 own1 S1 hd1 W1
    · rename_i hne
      have H1 := ih _ _ _ _ _ _ h hp
      intro w own a S hd Q hQ
      refine wp_block (H1 w own a S hd _ fun a1 w1 own1 S1 hd1 W1 => ?_)
      cases e with
      | normal => exact hQ a1 w1 own1 S1 hd1 W1
      | ret => exact hQ a1 w1 own1 S1 hd1 W1
      | exit i => exact absurd h (hne _ _ _ _)
  | loop body ih =>
    intro st sc p e st' sc' h hp
    unfold runC at h
    split at h
    · split at h
      · rename_i hk
        simp only [Option.some.injEq, Prod.mk.injEq] at h
        obtain ⟨rfl, rfl, rfl, rfl⟩ := h
        have H := hp _ (List.mem_cons_self ..)
        intro w own a S hd Q hQ
        exact H w own a S.proj hd Q fun a1 w1 own1 S1 hd1 W1 => hQ a1 w1 own1 S1 hd1 ((WayI.proj hk).comp W1)
      · cases h
    · cases h
  | _ =>
    intro st sc p e st' sc' h hp
    simp only [runC] at h
    cases h

/-- one more round -/
theorem loop_next (hm : P.follows .mixedOrders = true) {body : Code} {st st1 st' : St} {sc : List Item} {p : List Prop} {slots sites : List Nat} {n : Nat} {e : AExit} (h : runC (CallOK P) (ExecOK P) P body st sc = some (p, .normal, st1, []))
    (hp : ∀ q ∈ p, q) (hk : keepsI sites st1.ob = true) (H : LoopOK P body n (proj slots sites st1) e st') : LoopOK P body (n + 1) st e st' := by
  have H1 := runC_sound hm _ _ _ _ _ _ _ h hp
  intro w own a S hd Q hQ
  rw [rounds_succ]
  refine H1 w own a S hd _ fun a1 w1 own1 S1 hd1 W1 => ?_
  exact H w1 own1 a1 S1.proj hd1 Q fun a2 w2 own2 S2 hd2 W2 => hQ a2 w2 own2 S2 hd2 ((W1.comp (WayI.proj hk)).comp W2)

def leaves : AExit → Bool
  | .normal => false
  | _ => true

/-- the last round -/
theorem loop_last (hm : P.follows .mixedOrders = true) {body : Code} {st st1 : St} {sc : List Item} {p : List Prop} {n : Nat} {e : AExit} (h : runC (CallOK P) (ExecOK P) P body st sc = some (p, e, st1, [])) (he : leaves e = true)
    (hp : ∀ q ∈ p, q) : LoopOK P body (n + 1) st e st1 := by
  have H1 := runC_sound hm _ _ _ _ _ _ _ h hp
  intro w own a S hd Q hQ
  rw [rounds_succ]
  refine H1 w own a S hd _ fun a1 w1 own1 S1 hd1 W1 => ?_
  cases e with
  | normal => cases he
  | ret => exact hQ a1 w1 own1 S1 hd1 W1
  | exit i => exact hQ a1 w1 own1 S1 hd1 W1

end
end Go.Abs
