import Derived.Test.YtkjlebnmeimfnaaAbsRegion
namespace Go.Abs

/-! what may be written -/
theorem newOb_foot {ob : Nat → Option Ob} {d : Nat} {c : Con} {v : Nat} {wo : List (Nat × Ob)} (h : newOb ob d c = some (v, wo)) : ∀ p ∈ wo, ob p.1 ≠ none := by
  unfold newOb at h
  split at h
  · rename_i o ho
    simp only [Option.some.injEq, Prod.mk.injEq] at h
    obtain ⟨rfl, rfl⟩ := h
    intro p hp
    simp only [List.mem_singleton] at hp
    subst hp
    simp [ho]
  · cases h

theorem liveOb_ne {ob : Nat → Option Ob} {s v : Nat} {c : Con} (h : liveOb ob s v = some c) : ob s ≠ none := by
  unfold liveOb at h
  intro h0
  simp [h0] at h

theorem ret_wo {t : T} {e : Eff} (h : ret t = some e) : e.wo = [] := by
  unfold ret at h; injection h with h; subst h; rfl
theorem bind_ret_wo {α} {x : Option α} {f : α → T} {e : Eff} (h : (x.bind fun a => ret (f a)) = some e) : e.wo = [] := by
  cases x with
  | none => cases h
  | some a => exact ret_wo h

def FootOK (ob : Nat → Option Ob) (b : Bool) (e : Eff) : Prop := (∀ p ∈ e.wo, ob p.1 ≠ none) ∧ (b = false → e.wo = [])
theorem FootOK.nil {ob b} {e : Eff} (h : e.wo = []) : FootOK ob b e := ⟨by rw [h]; simp, fun _ => h⟩
theorem FootOK.w {ob} {e : Eff} (h : ∀ p ∈ e.wo, ob p.1 ≠ none) : FootOK ob true e := ⟨h, fun h => by cases h⟩

section
variable {P : Program}

theorem effAppend_foot {ob : Nat → Option Ob} {d : Nat} {t t' : TypeId} {s x : V} {e : Eff} (h : effAppend P ob d t t' s x = some e) : ∀ p ∈ e.wo, ob p.1 ≠ none := by
  unfold effAppend at h
  repeat' (split at h)
  all_goals (try cases h)
  · exact newOb_foot (by assumption)
  · intro p hp
    simp only [List.mem_singleton] at hp
    subst hp
    exact liveOb_ne (by assumption)

theorem effBuiltin_foot {ob : Nat → Option Ob} {d : Nat} {b : Builtin} {ts : List TypeId} {l : List T} {e : Eff} (h : effBuiltin P ob d b ts l = some e) :
    FootOK ob (match b with | .len => false | .min => false | .max => false | _ => true) e := by
  unfold effBuiltin at h
  split at h
  · exact FootOK.nil (bind_ret_wo h)
  · exact FootOK.w (effAppend_foot h)
  · exact FootOK.nil (bind_ret_wo h)
  · exact FootOK.nil (bind_ret_wo h)
  · cases h

theorem effLoad_wo {ob : Nat → Option Ob} {ch : Ch} {t : TypeId} {a : T} {e : Eff} (h : effLoad P ob ch t a = some e) : e.wo = [] := by
  unfold effLoad at h
  repeat' (split at h)
  all_goals (try cases h)
  · obtain ⟨r, _, hr⟩ := Option.bind_eq_some_iff.1 h
    injection hr with hr; subst hr; rfl
  · obtain ⟨r, _, hr⟩ := Option.bind_eq_some_iff.1 h
    exact ret_wo hr

theorem effStore_foot {ob : Nat → Option Ob} {ch : Ch} {t : TypeId} {a x : T} {e : Eff} (h : effStore P ob ch t a x = some e) : ∀ p ∈ e.wo, ob p.1 ≠ none := by
  unfold effStore at h
  repeat' (split at h)
  all_goals (try cases h)
  intro p hp
  simp only [List.mem_singleton] at hp
  subst hp
  exact liveOb_ne (by assumption)

theorem effIndexAddr_wo {ob : Nat → Option Ob} {ch : Ch} {t : TypeId} {x i : T} {e : Eff} (h : effIndexAddr P ob ch t x i = some e) : e.wo = [] := by
  unfold effIndexAddr at h
  repeat' (split at h)
  all_goals (try cases h)
  all_goals rfl

theorem addOff_wo {ob : Nat → Option Ob} {k : Nat} {a : T} {e : Eff} (h : addOff ob k a = some e) : e.wo = [] := by
  unfold addOff at h
  repeat' (split at h)
  all_goals (first | exact ret_wo h | cases h)

theorem effSlice_wo {u : Option TypeDesc} {n : Option Nat} {rd : Nat → T} {x : T} {lo hi mx : Option Operand} {e : Eff} (h : effSlice u n rd x lo hi mx = some e) : e.wo = [] := by
  unfold effSlice at h
  repeat' (split at h)
  all_goals (try cases h)
  all_goals rfl

theorem eff_foot {o : Oper} {rd : Nat → T} {ob : Nat → Option Ob} {ch : Ch} {e : Eff} (h : eff P o rd ob ch = some e) : FootOK ob (isWriter o.op) e := by
  unfold eff at h
  cases hop : o.op <;> simp only [hop] at h <;> simp only [isWriter]
  case move => split at h <;> (try cases h) <;> first | exact FootOK.nil rfl | exact FootOK.nil (ret_wo h)
  case assign => split at h <;> (try cases h) <;> first | exact FootOK.nil rfl | exact FootOK.nil (ret_wo h)
  case pick => split at h <;> (try cases h) <;> exact FootOK.nil (bind_ret_wo (f := id) h)
  case nilCheck => repeat' (split at h)
                   all_goals (try cases h)
                   all_goals first | exact FootOK.nil rfl | exact FootOK.nil (ret_wo h)
  case alloc => repeat' (split at h)
                all_goals (try cases h)
                all_goals exact FootOK.w (newOb_foot (by assumption))
  case box => repeat' (split at h)
              all_goals (try cases h)
              all_goals exact FootOK.w (newOb_foot (by assumption))
  case build => repeat' (split at h)
                all_goals (try cases h)
                exact FootOK.nil (bind_ret_wo (f := T.agg) h)
  case buildSlice => repeat' (split at h)
                     all_goals (try cases h)
                     all_goals first | exact FootOK.nil rfl | exact FootOK.w (newOb_foot (by assumption))
  case load => obtain ⟨r, _, hr⟩ := Option.bind_eq_some_iff.1 h
               exact FootOK.nil (effLoad_wo hr)
  case store => split at h
                · exact FootOK.w (effStore_foot h)
                · cases h
  case binOp => repeat' (split at h)
                all_goals (try cases h)
                exact FootOK.nil rfl
  case unOp => split at h
               · exact FootOK.nil (bind_ret_wo (f := T.one) h)
               · cases h
  case convert => split at h
                  · exact FootOK.nil (ret_wo h)
                  · cases h
  case makeSlice => repeat' (split at h)
                    all_goals (try cases h)
                    all_goals exact FootOK.w (newOb_foot (by assumption))
  case slice => obtain ⟨r, _, hr⟩ := Option.bind_eq_some_iff.1 h
                exact FootOK.nil (effSlice_wo hr)
  case fieldAddr => repeat' (split at h)
                    all_goals (try cases h)
                    exact FootOK.nil (addOff_wo h)
  case field => repeat' (split at h)
                all_goals (try cases h)
                exact FootOK.nil (bind_ret_wo (f := id) h)
  case indexAddr => repeat' (split at h)
                    all_goals (try cases h)
                    exact FootOK.nil (effIndexAddr_wo h)
  case index => repeat' (split at h)
                all_goals (try cases h)
                exact FootOK.nil rfl
  case extract => repeat' (split at h)
                  all_goals (try cases h)
                  all_goals first | exact FootOK.nil rfl | exact FootOK.nil (ret_wo h)
  case call c =>
    split at h
    · rename_i b hb
      obtain ⟨l, _, hr⟩ := Option.bind_eq_some_iff.1 h
      rw [hb]
      have := effBuiltin_foot hr
      cases b <;> exact this
    · cases h
  all_goals cases h

theorem passObs_ne {ob : Nat → Option Ob} {f : V → Option V} : ∀ {l : List Nat} {r : List Ob}, passObs ob f l = some r → ∀ s ∈ l, ob s ≠ none
  | [], _, _ => by simp
  | s :: l, r, h => by
    unfold passObs at h
    split at h
    · rename_i o l' ho hl
      intro t ht
      rcases List.mem_cons.1 ht with rfl | ht
      · simp [ho]
      · exact passObs_ne hl t ht
    · cases h
theorem deadObs_foot {ob : Nat → Option Ob} : ∀ {l : List Nat} {r : List (Nat × Ob)}, deadObs ob l = some r → ∀ p ∈ r, ob p.1 ≠ none
  | [], r, h => by cases h; simp
  | s :: l, r, h => by
    unfold deadObs at h
    split at h
    · rename_i o l' ho hl
      injection h with h; subst h
      intro p hp
      rcases List.mem_cons.1 hp with rfl | hp
      · simp [ho]
      · exact deadObs_foot hl p hp
    · cases h
theorem backMap_foot {ob : Nat → Option Ob} : ∀ {pass adopt : List Nat} {os : List Ob} {m : List (Nat × Nat × Nat)}, backMap ob pass adopt os = some m → (∀ s ∈ pass, ob s ≠ none) → ∀ p ∈ m, ob p.1 ≠ none
  | [], [], [], m, h, _ => by cases h; simp
  | [], [], _ :: _, m, h, _ => by cases h
  | s :: pass, adopt, [], m, h, _ => by cases h
  | [], s :: adopt, [], m, h, _ => by cases h
  | s :: pass, adopt, o :: r, m, h, hp => by
    unfold backMap at h
    split at h
    · rename_i x l hx hl
      injection h with h; subst h
      intro p hm
      rcases List.mem_cons.1 hm with rfl | hm
      · exact hp s (List.mem_cons_self ..)
      · exact backMap_foot hl (fun s hs => hp s (List.mem_cons_of_mem _ hs)) p hm
    · cases h
  | [], s :: adopt, o :: r, m, h, hp => by
    unfold backMap at h
    split at h
    · rename_i x l hx hl
      injection h with h; subst h
      intro p hm
      rcases List.mem_cons.1 hm with rfl | hm
      · simp [hx]
      · exact backMap_foot hl (fun s hs => by cases hs) p hm
    · cases h
theorem backObs_sites {m : List (Nat × Nat × Nat)} : ∀ {os : List Ob} {mr : List (Nat × Nat × Nat)} {r : List (Nat × Ob)}, backObs m os mr = some r → ∀ p ∈ r, ∃ q ∈ mr, q.1 = p.1
  | [], [], r, h => by cases h; simp
  | [], _ :: _, r, h => by cases h
  | _ :: _, [], r, h => by cases h
  | o :: os, (t, v0, v1) :: mr, r, h => by
    unfold backObs at h
    split at h
    · rename_i o' l ho hl
      injection h with h; subst h
      intro p hp
      rcases List.mem_cons.1 hp with rfl | hp
      · exact ⟨(t, v0, v1), List.mem_cons_self .., rfl⟩
      · obtain ⟨q, hq, hqp⟩ := backObs_sites hl p hp
        exact ⟨q, List.mem_cons_of_mem _ hq, hqp⟩
    · cases h

theorem effCall_foot {CO : CallP} {ob : Nat → Option Ob} {f : Nat} {args : List T} {frz bor pass : List Nat} {r : T} {oout : List Ob} {adopt : List Nat} {e : Eff}
    (h : effCall CO ob f args frz bor pass r oout adopt = some e) : ∀ p ∈ e.wo, ob p.1 ≠ none := by
  unfold effCall at h
  split at h
  · rename_i h1 h2 h3 h4 h5
    split at h
    · rename_i h6 h7 h8 h9
      injection h with h; subst h
      intro p hp
      rcases List.mem_append.1 hp with hp | hp
      · exact deadObs_foot h8 p hp
      · obtain ⟨q, hq, hqp⟩ := backObs_sites h7 p hp
        rw [← hqp]
        exact backMap_foot h3 (passObs_ne h2) q hq
    · cases h
  · cases h

theorem owns_foot {ob : Nat → Option Ob} : ∀ {l : List (Nat × Nat × TypeId × Nat)} {e e' : Eff}, ownEs ob l e = some e' → (∀ p ∈ e.wo, ob p.1 ≠ none) → ∀ p ∈ e'.wo, ob p.1 ≠ none
  | [], e, e', h, he => by simp only [ownEs, Option.some.injEq] at h; subst h; exact he
  | q :: r, e, e', h, he => by
    unfold ownEs at h
    split at h
    · rename_i e1 h1
      refine owns_foot h ?_
      unfold ownE1 at h1
      split at h1
      · rename_i ob0 h0
        split at h1
        · injection h1 with h1; subst h1
          intro p hp
          rcases List.mem_append.1 hp with hp | hp
          · exact he p hp
          · simp only [List.mem_singleton] at hp
            subst hp
            unfold obOf at h0
            split at h0
            · rename_i x hx
              exact he (_, x) (fnd_some hx)
            · rw [h0]; simp
        · cases h1
      · cases h1
    · cases h

theorem re_foot {ob : Nat → Option Ob} {b : Bool} {es : List (List V)} {e0 e : Eff} (h : retypeE es e0 = some e) (F : FootOK ob b e0) : FootOK ob b e := by
  unfold retypeE at h
  obtain ⟨d0, wo0, obs0⟩ := e0
  dsimp only at h
  split at h
  · injection h with h; subst h
    refine ⟨fun p hp => ?_, fun hb => ?_⟩
    · simp only [List.mem_singleton] at hp
      subst hp
      have h1 := F.1 _ (List.mem_singleton.2 rfl)
      exact h1
    · have := F.2 hb; cases this
  · injection h with h; subst h
    exact FootOK.nil rfl
  · cases h

theorem eff1_foot {o : Oper} {rd : Nat → T} {ob : Nat → Option Ob} {ch : Ch} {e : Eff} (h : eff1 P o rd ob ch = some e) : FootOK ob (isWriter o.op) e := by
  unfold eff1 at h
  split at h
  · rename_i ch es
    obtain ⟨e0, h0, h⟩ := Option.bind_eq_some_iff.1 h
    exact re_foot h (eff_foot h0)
  · rename_i t
    obtain ⟨e0, h0, h⟩ := Option.bind_eq_some_iff.1 h
    injection h with h; subst h
    have F := eff_foot h0
    exact ⟨F.1, fun hb => F.2 hb⟩
  · exact eff_foot h

theorem effX_foot {o : Oper} {rd : Nat → T} {ob : Nat → Option Ob} {ch : Ch} {e : Eff} (h : effX P o rd ob ch = some e) : FootOK ob (isWriter o.op || isFrz ch) e := by
  unfold effX at h
  split at h
  · rename_i ch ss
    obtain ⟨e0, h0, h⟩ := Option.bind_eq_some_iff.1 h
    have F := eff1_foot h0
    unfold frzE at h
    split at h
    · rename_i t dead h1 h2
      injection h with h; subst h
      have : (isWriter o.op || isFrz (.frz ch ss)) = true := by simp [isFrz]
      rw [this]
      refine FootOK.w fun p hp => ?_
      rcases List.mem_append.1 hp with hp | hp
      · exact F.1 p hp
      · have := deadObs_foot h2 p hp
        unfold obOf at this
        split at this
        · rename_i x hx
          exact F.1 (_, x) (fnd_some hx)
        · exact this
    · cases h
  · rename_i l
    obtain ⟨e0, h0, h⟩ := Option.bind_eq_some_iff.1 h
    have F := eff_foot h0
    have : (isWriter o.op || isFrz (.own l)) = true := by simp [isFrz]
    rw [this]
    exact FootOK.w (owns_foot h F.1)
  · have F := eff1_foot h
    refine ⟨F.1, fun hb => F.2 ?_⟩
    simp only [Bool.or_eq_false_iff] at hb
    exact hb.1

theorem effM_foot {CO : CallP} {ops : List Oper} {rd : Nat → T} {ob : Nat → Option Ob} {o : Oper} {ch : Ch} {e : Eff} (h : effM CO P ops rd ob o ch = some e) : FootOK ob (isWriter o.op || isFrz ch) e := by
  unfold effM at h
  split at h
  · cases h
  · injection h with h; subst h; exact FootOK.nil rfl
  · split at h
    · rename_i c hop
      repeat' (split at h)
      all_goals (try cases h)
      have hw : isWriter o.op = true := by
        rw [hop]
        simp only [isWriter]
        have hc : ∃ x, c.callee = Callee.value x := ⟨_, by assumption⟩
        obtain ⟨x, hc⟩ := hc
        rw [hc]
      rw [hw]
      exact FootOK.w (effCall_foot h)
    · exact effX_foot h

/-! binding edges and masks -/
theorem edgeMask_bit {acc : List Nat} {i : Nat} : ∀ {l : List Edge}, Nat.testBit (edgeMask acc l) i = true → ∃ e ∈ l, Region.binds .any e = true ∧ (i = e.on ∨ Nat.testBit (acc.getD e.on 0) i = true)
  | [], h => by simp [edgeMask] at h
  | e :: l, h => by
    unfold edgeMask at h
    split at h
    · rename_i hb
      simp only [Nat.testBit_or, Bool.or_eq_true, Nat.testBit_two_pow] at h
      rcases h with (h | h) | h
      · exact ⟨e, List.mem_cons_self .., hb, .inl (by simpa [eq_comm] using h)⟩
      · exact ⟨e, List.mem_cons_self .., hb, .inr h⟩
      · obtain ⟨e', h1, h2⟩ := edgeMask_bit h
        exact ⟨e', List.mem_cons_of_mem _ h1, h2⟩
    · obtain ⟨e', h1, h2⟩ := edgeMask_bit h
      exact ⟨e', List.mem_cons_of_mem _ h1, h2⟩

theorem ancs_spec : ∀ (r : List Oper) (acc : List Nat), ∃ ext, ancs r acc = acc ++ ext ∧ ext.length = r.length ∧ ∀ i o, r[i]? = some o → ext[i]? = some (edgeMask (acc ++ ext.take i) o.after.toList)
  | [], acc => ⟨[], by simp [ancs]⟩
  | o :: r, acc => by
    obtain ⟨ext, h1, h2, h3⟩ := ancs_spec r (acc ++ [edgeMask acc o.after.toList])
    refine ⟨edgeMask acc o.after.toList :: ext, ?_, ?_, fun i o' ho => ?_⟩
    · unfold ancs; rw [h1]; simp
    · simp [h2]
    · cases i with
      | zero => simp at ho; subst ho; simp
      | succ i =>
        simp at ho
        have := h3 i o' ho
        simpa using this

/-- a set that is closed under the edges that bind -/
def Closed (ops : List Oper) (S : Nat → Bool) : Prop := ∀ j o, ops[j]? = some o → S j = true → ∀ e ∈ o.after, Region.binds .any e = true → S e.on = true

theorem getD_take {l : List Nat} {i j m : Nat} (h : Nat.testBit ((l.take i).getD j 0) m = true) : j < i ∧ Nat.testBit (l.getD j 0) m = true := by
  rw [List.getD_eq_getElem?_getD, List.getElem?_take] at h
  by_cases hj : j < i
  · rw [if_pos hj] at h
    exact ⟨hj, by rw [List.getD_eq_getElem?_getD]; exact h⟩
  · rw [if_neg hj] at h; simp at h

theorem anc_edge {ops : List Oper} {i : Nat} {o : Oper} {m j : Nat} (ho : ops[i]? = some o) (hm : (ancs ops [])[i]? = some m) (hj : Nat.testBit m j = true) :
    ∃ e ∈ o.after, Region.binds .any e = true ∧ (j = e.on ∨ (e.on < i ∧ ∃ m', (ancs ops [])[e.on]? = some m' ∧ Nat.testBit m' j = true)) := by
  obtain ⟨ext, h1, h2, h3⟩ := ancs_spec ops []
  rw [List.nil_append] at h1
  rw [h1] at hm ⊢
  have := h3 i o ho
  rw [hm] at this
  injection this with this
  subst this
  obtain ⟨e, he, hb, h⟩ := edgeMask_bit hj
  refine ⟨e, by simpa using he, hb, h.imp id fun h => ?_⟩
  rw [List.nil_append] at h
  obtain ⟨hl, h⟩ := getD_take h
  refine ⟨hl, ?_⟩
  rw [List.getD_eq_getElem?_getD] at h
  cases hx : ext[e.on]? with
  | none => rw [hx] at h; simp at h
  | some m' => rw [hx] at h; exact ⟨m', rfl, h⟩

theorem anc_closed {ops : List Oper} {S : Nat → Bool} (hS : Closed ops S) : ∀ (i : Nat) (m j : Nat), (ancs ops [])[i]? = some m → S i = true → Nat.testBit m j = true → S j = true := by
  intro i
  induction i using Nat.strongRecOn with
  | _ i ih =>
    intro m j hm hs hj
    have hlen : (ancs ops []).length = ops.length := by
      obtain ⟨ext, h1, h2, _⟩ := ancs_spec ops []
      rw [h1]; simpa using h2
    have hi : i < ops.length := by rw [← hlen]; exact (List.getElem?_eq_some_iff.1 hm).1
    obtain ⟨e, he, hb, h⟩ := anc_edge (List.getElem?_eq_getElem hi) hm hj
    have hse := hS i _ (List.getElem?_eq_getElem hi) hs e he hb
    rcases h with rfl | ⟨hl, m', hm', hj'⟩
    · exact hse
    · exact ih e.on hl m' j hm' hse hj'

theorem anc_ready {ops : List Oper} {S : Nat → Bool} (hS : Closed ops S) {i : Nat} {o : Oper} {m j : Nat} (ho : ops[i]? = some o) (hm : (ancs ops [])[i]? = some m)
    (hr : ∀ e ∈ o.after, Region.binds .any e = true → S e.on = true) (hj : Nat.testBit m j = true) : S j = true := by
  obtain ⟨e, he, hb, h⟩ := anc_edge ho hm hj
  rcases h with rfl | ⟨hl, m', hm', hj'⟩
  · exact hr e he hb
  · exact anc_closed hS e.on m' j hm' (hr e he hb) hj'

theorem checkOne_spec {f : Fp} {m : Nat} : ∀ {l : List Fp} {k : Nat}, checkOne f m l k = true → ∀ i g, l[i]? = some g → Nat.testBit m (k + i) = true ∨ indep g f = true
  | [], k, _, i, g, hg => by simp at hg
  | g0 :: l, k, h, i, g, hg => by
    have step : checkOne f m l (k + 1) = true ∧ (Nat.testBit m k = true ∨ indep g0 f = true) := by
      unfold checkOne at h
      split at h
      · exact ⟨h, .inl (by assumption)⟩
      · split at h
        · exact ⟨h, .inr (by assumption)⟩
        · cases h
    cases i with
    | zero => simp at hg; subst hg; simpa using step.2
    | succ i =>
      simp at hg
      have := checkOne_spec step.1 i g hg
      rwa [show k + 1 + i = k + (i + 1) by omega] at this

theorem checkDraw_spec : ∀ {fs : List Fp} {done : List Fp} {ms : List Nat}, checkDraw done fs ms = true → ∀ j f m, fs[j]? = some f → ms[j]? = some m →
    ∀ i g, (done ++ fs)[i]? = some g → i < done.length + j → Nat.testBit m i = true ∨ indep g f = true
  | [], done, ms, _, j, f, m, hf, _ => by simp at hf
  | f0 :: fs, done, [], h, j, f, m, hf, hm => by simp at hm
  | f0 :: fs, done, m0 :: ms, h, j, f, m, hf, hm => by
    unfold checkDraw at h
    split at h
    · rename_i h1
      intro i g hg hi
      cases j with
      | zero =>
        simp at hf hm
        subst hf hm
        rw [List.getElem?_append_left (by omega)] at hg
        simpa using checkOne_spec h1 i g hg
      | succ j =>
        simp at hf hm
        refine checkDraw_spec h j f m hf hm i g ?_ (by simp; omega)
        rwa [List.append_assoc, List.singleton_append]
    · cases h

theorem disj_spec : ∀ {l l' : List Nat}, disj l l' = true → ∀ s ∈ l, s ∉ l'
  | [], l', _, s, hs => by cases hs
  | t :: r, l', h, s, hs => by
    unfold disj at h
    simp only [Bool.and_eq_true, Bool.not_eq_true'] at h
    rcases List.mem_cons.1 hs with rfl | hs
    · intro hm
      rw [hasN_iff.2 hm] at h
      cases h.1
    · exact disj_spec h.2 s hs

structure Indep (a b : Fp) : Prop where
  ab : ∀ d, a.d = some d → d ∉ b.rs
  ba : ∀ d, b.d = some d → d ∉ a.rs
  dd : ∀ d e, a.d = some d → b.d = some e → d ≠ e
  ss : (a.wr = false ∧ b.wr = false) ∨ ∀ s ∈ a.sites, s ∉ b.sites

theorem indep_spec {a b : Fp} (h : indep a b = true) : Indep a b := by
  unfold indep at h
  simp only [Bool.and_eq_true, Bool.or_eq_true, Bool.not_eq_true'] at h
  obtain ⟨⟨h1, h2⟩, h3⟩ := h
  refine ⟨fun d hd => ?_, fun d hd => ?_, fun d e hd he => ?_, ?_⟩
  · rw [hd] at h1
    simp only [Bool.and_eq_true, Bool.not_eq_true'] at h1
    intro hm; rw [hasN_iff.2 hm] at h1; cases h1.1
  · rw [hd] at h2
    simp only [Bool.not_eq_true'] at h2
    intro hm; rw [hasN_iff.2 hm] at h2; cases h2
  · rw [hd, he] at h1
    simp only [Bool.and_eq_true, Bool.not_eq_true'] at h1
    intro hm; subst hm; simp at h1
  · rcases h3 with h3 | h3
    · exact .inl h3
    · exact .inr (disj_spec h3)

theorem edgesBack_spec {k : Nat} : ∀ {l : List Edge}, edgesBack k l = true → ∀ e ∈ l, Region.binds .any e = true → e.on < k
  | [], _, e, he, _ => by cases he
  | e0 :: l, h, e, he, hb => by
    unfold edgesBack at h
    split at h
    · rename_i hb0
      split at h
      · rename_i hl
        rcases List.mem_cons.1 he with rfl | he
        · simpa [Nat.blt, Nat.lt_iff_add_one_le] using hl
        · exact edgesBack_spec h e he hb
      · cases h
    · rename_i hb0
      rcases List.mem_cons.1 he with rfl | he
      · rw [hb] at hb0; cases hb0
      · exact edgesBack_spec h e he hb
theorem allBack_spec : ∀ {l : List Oper} {k : Nat}, allBack l k = true → ∀ i o, l[i]? = some o → ∀ e ∈ o.after, Region.binds .any e = true → e.on < k + i
  | [], k, _, i, o, ho => by simp at ho
  | o0 :: l, k, h, i, o, ho => by
    unfold allBack at h
    split at h
    · rename_i h1
      cases i with
      | zero =>
        simp at ho; subst ho
        intro e he hb
        simpa using edgesBack_spec h1 e (by simpa using he) hb
      | succ i =>
        simp at ho
        intro e he hb
        have := allBack_spec h i o ho e he hb
        omega
    · cases h

end
end Go.Abs
