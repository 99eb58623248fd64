import Derived.Test.YtkjlebnmeimfnaaPl3
namespace Go.Abs

/-! mistakes -/
def mistG (p : Pl) : List (List Int × Int) → Nat → List Int
  | [], _ => []
  | z :: r, i => if side p z.1 == z.2 then mistG p r (i + 1) else (i : Int) :: mistG p r (i + 1)
theorem mistG_cons (p : Pl) (z : List Int × Int) (r : List (List Int × Int)) (i : Nat) : mistG p (z :: r) i = if side p z.1 == z.2 then mistG p r (i + 1) else (i : Int) :: mistG p r (i + 1) := rfl
def mist (p : Pl) (s : Smp) : List Int := mistG p (s.1.zip s.2) 0
theorem mistG_len (p : Pl) : ∀ (zs : List (List Int × Int)) (i : Nat), (mistG p zs i).length ≤ zs.length
  | [], _ => by simp [mistG]
  | z :: r, i => by
    have := mistG_len p r (i + 1)
    unfold mistG
    split <;> simp <;> omega
theorem mist_len {p : Pl} {s : Smp} {d : Nat} (H : Runs s d) : (mist p s).length ≤ 16 := by
  have := mistG_len p (s.1.zip s.2) 0
  have := zip_len H
  have := H.2.1
  unfold mist
  omega

theorem mistakes_l0 (s : Smp) (p : Pl) {d : Nat} (H : Runs s d) (hp : p.1.length = d) : ∀ (r : List (List Int × Int)) (i : Nat) (o : List Int), (s.1.zip s.2).drop i = r → i ≤ s.1.length → o.length + r.length ≤ 1000 →
    lrun (fun (u : List Int × Int) => den (impl_Plane_mistakes_l0 p s u.1 u.2)) (o, (i : Int)) = some (o ++ mistG p r i)
  | [], i, o, hr, hi, h1 => by
    have : i = s.1.length := by
      have := drop_nil hr (by simp [H.1, hi])
      simpa [H.1] using this
    subst this
    refine (lrun_done (d := o) ?_).trans ?_
    · simp [impl_Plane_mistakes_l0, ln_eq]
    · simp [mistG]
  | z :: r, i, o, hr, hi, h1 => by
    obtain ⟨hz, hr', hlt⟩ := drop_cons hr
    obtain ⟨x, l⟩ := z
    obtain ⟨hx, hl⟩ := List.getElem?_zip_eq_some.1 hz
    have hi' := (List.getElem?_eq_some_iff.1 hx).1
    have hxd := H.2.2.2 x (List.mem_of_getElem? hx)
    have hd := H.2.2.1
    have h16 := H.2.1
    simp only [List.length_cons] at h1
    have hi1 : w64 ((i : Int) + 1) = ((i + 1 : Nat) : Int) := w64_nat (by omega)
    have a1 : (o.length + [(i : Int)].length) * 8 ≤ 140737488355328 := by simp; omega
    have st : den (impl_Plane_mistakes_l0 p s o (i : Int)) = some (.inl (if side p x == l then o else o ++ [(i : Int)], ((i + 1 : Nat) : Int))) := by
      simp only [impl_Plane_mistakes_l0, den_go, den_brc, den_get, den_call, den_ret, den_chs, den_app, ln_eq, getI_nat, hx, hl, Option.bind_some, m_side p x (by omega) (by omega), hi1, a1]
      simp only [Int.ofNat_lt, hi', decide_true, if_true]
      by_cases g : side p x = l <;> simp [g]
    rw [lrun_next st, mistakes_l0 s p H hp r (i + 1) _ hr' (by omega) (by split; omega; (simp only [List.length_append, List.length_singleton]; omega)), mistG_cons]
    by_cases g : side p x == l <;> simp [g]
theorem m_mistakes (p : Pl) (s : Smp) {d : Nat} (H : Runs s d) (hp : p.1.length = d) : m_impl_Plane_mistakes p s = some (mist p s) := by
  have L := mistakes_l0 s p H hp (s.1.zip s.2) 0 [] rfl (Nat.zero_le _) (by have := zip_len H; have := H.2.1; simp; omega)
  have L' : lrun (fun (u : List Int × Int) => den (impl_Plane_mistakes_l0 p s u.1 u.2)) ([], 0) = _ := L
  simp only [m_impl_Plane_mistakes, s_impl_Plane_mistakes, den_go, den_chs, den_lp, m_impl_Plane_mistakes_l0, L', Option.bind_some, den_ret, List.nil_append, mist]

theorem l2Mistakes_l0 (s : Smp) (p : Pl) {d : Nat} (H : Runs s d) (hp : p.1.length = d) : ∀ (r : List (List Int × Int)) (i : Nat) (o : List Int), (s.1.zip s.2).drop i = r → i ≤ s.1.length → o.length + r.length ≤ 1000 →
    lrun (fun (u : List Int × Int) => den (spec_l2Mistakes_l0 s p u.1 u.2)) (o, (i : Int)) = some (o ++ mistG p r i)
  | [], i, o, hr, hi, h1 => by
    have : i = s.1.length := by
      have := drop_nil hr (by simp [H.1, hi])
      simpa [H.1] using this
    subst this
    refine (lrun_done (d := o) ?_).trans ?_
    · simp [spec_l2Mistakes_l0, ln_eq]
    · simp [mistG]
  | z :: r, i, o, hr, hi, h1 => by
    obtain ⟨hz, hr', hlt⟩ := drop_cons hr
    obtain ⟨x, l⟩ := z
    obtain ⟨hx, hl⟩ := List.getElem?_zip_eq_some.1 hz
    have hi' := (List.getElem?_eq_some_iff.1 hx).1
    have hxd := H.2.2.2 x (List.mem_of_getElem? hx)
    have hd := H.2.2.1
    have h16 := H.2.1
    simp only [List.length_cons] at h1
    have hi1 : w64 ((i : Int) + 1) = ((i + 1 : Nat) : Int) := w64_nat (by omega)
    have a1 : (o.length + [(i : Int)].length) * 8 ≤ 140737488355328 := by simp; omega
    have st : den (spec_l2Mistakes_l0 s p o (i : Int)) = some (.inl (if side p x == l then o else o ++ [(i : Int)], ((i + 1 : Nat) : Int))) := by
      simp only [spec_l2Mistakes_l0, den_go, den_brc, den_get, den_call, den_ret, den_chs, den_app, ln_eq, getI_nat, hx, hl, Option.bind_some, m_l2Side p x (by omega) (by omega), hi1, a1]
      simp only [Int.ofNat_lt, hi', decide_true, if_true]
      by_cases g : side p x = l <;> simp [g]
    rw [lrun_next st, l2Mistakes_l0 s p H hp r (i + 1) _ hr' (by omega) (by split; omega; (simp only [List.length_append, List.length_singleton]; omega)), mistG_cons]
    by_cases g : side p x == l <;> simp [g]
theorem m_l2Mistakes (p : Pl) (s : Smp) {d : Nat} (H : Runs s d) (hp : p.1.length = d) : m_spec_l2Mistakes s p = some (mist p s) := by
  have L := l2Mistakes_l0 s p H hp (s.1.zip s.2) 0 [] rfl (Nat.zero_le _) (by have := zip_len H; have := H.2.1; simp; omega)
  have L' : lrun (fun (u : List Int × Int) => den (spec_l2Mistakes_l0 s p u.1 u.2)) ([], 0) = _ := L
  simp only [m_spec_l2Mistakes, s_spec_l2Mistakes, den_go, den_chs, den_lp, m_spec_l2Mistakes_l0, L', Option.bind_some, den_ret, List.nil_append, mist]

/-! what a run tells -/
theorem isPlane_len {p : Pl} (h : isPlane p = true) : 1 ≤ p.1.length ∧ p.1.length ≤ 4 := by
  simp only [isPlane, Bool.and_eq_true, within_iff] at h
  omega

theorem row_planes : ∀ {zs : List (List Int × Int)} {d : Nat} (hd : ∀ z ∈ zs, z.1.length = d) {i : Nat} {p q : Pl} {ps : List Pl} {tr : List Int}, p.1.length = d → row zs i p = some (q, ps, tr) →
    (∀ p' ∈ ps, isPlane p' = true ∧ p'.1.length = d) ∧ (∀ t ∈ tr, ∃ k : Nat, t = k ∧ i ≤ k ∧ k < i + zs.length) ∧ (isPlane p = true → isPlane q = true)
  | [], d, hd, i, p, q, ps, tr, hp, h => by simp only [row, Option.some.injEq, Prod.mk.injEq] at h; obtain ⟨rfl, rfl, rfl⟩ := h; simp
  | z :: r, d, hd, i, p, q, ps, tr, hp, h => by
    have hz := hd z (List.mem_cons_self ..)
    have hn := stepP_len (l := z.2) (hp.trans hz.symm)
    unfold row at h
    split at h
    · rename_i hpl
      split at h
      · rename_i q' ps' tr' h1
        obtain ⟨g1, g2, g3⟩ := row_planes (fun z' hz' => hd z' (List.mem_cons_of_mem _ hz')) (hn.trans hz) h1
        have g2' : ∀ t ∈ tr', ∃ k : Nat, t = k ∧ i ≤ k ∧ k < i + (z :: r).length := fun t ht => by
          obtain ⟨k, h1, h2, h3⟩ := g2 t ht
          exact ⟨k, h1, by omega, by simp; omega⟩
        split at h
        · simp only [Option.some.injEq, Prod.mk.injEq] at h; obtain ⟨rfl, rfl, rfl⟩ := h
          refine ⟨fun p' hp' => ?_, fun t ht => ?_, fun _ => g3 hpl⟩
          · rcases List.mem_cons.1 hp' with rfl | hp'
            · exact ⟨hpl, hn.trans hz⟩
            · exact g1 p' hp'
          · rcases List.mem_cons.1 ht with rfl | ht
            · exact ⟨i, rfl, Nat.le_refl _, by simp⟩
            · exact g2' t ht
        · simp only [Option.some.injEq, Prod.mk.injEq] at h; obtain ⟨rfl, rfl, rfl⟩ := h
          exact ⟨g1, g2', fun _ => g3 hpl⟩
      · cases h
    · cases h

structure Ran (zs : List (List Int × Int)) (d k : Nat) (p q : Pl) (ps : List Pl) (tr ms : List Int) : Prop where
  planes : ∀ p' ∈ ps, isPlane p' = true ∧ p'.1.length = d
  trace : ∀ t ∈ tr, ∃ i : Nat, t = i ∧ i < zs.length
  len : ps.length = tr.length
  short : tr.length ≤ zs.length * k
  rounds : ms.length ≤ k
  some_ : 0 < k → ms ≠ []
  sum : ms.foldl (· + ·) (0 : Int) = (tr.length : Int)
  end_ : isPlane p = true → isPlane q = true
  endl : q.1.length = d
  last : ∀ pre, ∃ pre', pre ++ [p] ++ ps = pre' ++ [q]
  calm : 0 < k → ms.getLast? = some 0 → ∃ i, row zs i q = some (q, [], [])

theorem foldl_add (l : List Int) : ∀ a : Int, l.foldl (· + ·) a = a + l.foldl (· + ·) 0 := by
  induction l with
  | nil => simp
  | cons x r ih => intro a; simp only [List.foldl_cons]; rw [ih (a + x), ih (0 + x)]; omega

theorem row_none : ∀ {zs : List (List Int × Int)} {i : Nat} {p q : Pl} {ps : List Pl}, row zs i p = some (q, ps, []) → q = p ∧ ps = []
  | [], i, p, q, ps, h => by simp only [row, Option.some.injEq, Prod.mk.injEq] at h; exact ⟨h.1.symm, h.2.1.symm⟩
  | z :: r, i, p, q, ps, h => by
    unfold row at h
    split at h
    · split at h
      · rename_i q' ps' tr' h1
        split at h
        · simp at h
        · rename_i hf
          simp only [Option.some.injEq, Prod.mk.injEq] at h
          obtain ⟨rfl, rfl, rfl⟩ := h
          have := row_none h1
          rw [stepP_same (by simpa using hf)] at this
          exact this
      · cases h
    · cases h

theorem rnds_ran {zs : List (List Int × Int)} {d : Nat} (hd : ∀ z ∈ zs, z.1.length = d) : ∀ {k : Nat} {p q : Pl} {ps : List Pl} {tr ms : List Int}, p.1.length = d → rnds zs k p = some (q, ps, tr, ms) → Ran zs d k p q ps tr ms
  | 0, p, q, ps, tr, ms, hp, h => by
    simp only [rnds, Option.some.injEq, Prod.mk.injEq] at h
    obtain ⟨rfl, rfl, rfl, rfl⟩ := h
    exact ⟨by simp, by simp, rfl, by simp, by simp, by simp, by simp, id, hp, fun pre => ⟨pre, by simp⟩, by simp⟩
  | k + 1, p, q, ps, tr, ms, hp, h => by
    unfold rnds at h
    split at h
    · cases h
    · rename_i q1 ps1 tr1 h1
      obtain ⟨g1, g2, g3⟩ := row_planes hd hp h1
      have g2' : ∀ t ∈ tr1, ∃ i : Nat, t = i ∧ i < zs.length := fun t ht => by
        obtain ⟨i, h1, _, h3⟩ := g2 t ht
        exact ⟨i, h1, by omega⟩
      have hl := row_len h1
      have hq := row_end hd hp h1
      split at h
      · rename_i h0
        simp only [Option.some.injEq, Prod.mk.injEq] at h
        obtain ⟨rfl, rfl, rfl, rfl⟩ := h
        subst h0
        have hn := row_none h1
        refine ⟨g1, g2', hl.2, by simp, by simp, by simp, by simp, g3, hq, fun pre => row_last h1, fun _ _ => ⟨0, ?_⟩⟩
        rw [hn.1] at h1 ⊢
        rw [hn.2] at h1
        exact h1
      · rename_i h0
        split at h
        · cases h
        · rename_i q2 ps2 tr2 ms2 h2
          simp only [Option.some.injEq, Prod.mk.injEq] at h
          obtain ⟨rfl, rfl, rfl, rfl⟩ := h
          have R := rnds_ran hd hq h2
          refine ⟨fun p' hp' => ?_, fun t ht => ?_, by simp [hl.2, R.len], ?_, by have := R.rounds; simp; omega, by simp, ?_, fun hp => R.end_ (g3 hp), R.endl, fun pre => ?_, fun _ hz => ?_⟩
          · rcases List.mem_append.1 hp' with hp' | hp'
            · exact g1 p' hp'
            · exact R.planes p' hp'
          · rcases List.mem_append.1 ht with ht | ht
            · exact g2' t ht
            · exact R.trace t ht
          · have h1 := R.short
            have h2 := hl.1
            rw [List.length_append, Nat.mul_succ]
            omega
          · simp only [List.foldl_cons, List.length_append]
            rw [foldl_add, R.sum]
            omega
          · obtain ⟨pre1, h3⟩ := row_last (pre := pre) h1
            obtain ⟨pre2, h4⟩ := R.last pre1
            exact ⟨pre2, by rw [← h4, ← h3]; simp⟩
          · by_cases hk : 0 < k
            · have hne := R.some_ hk
              rw [List.getLast?_cons] at hz
              cases hm : ms2.getLast? with
              | none => exact absurd (List.getLast?_eq_none_iff.1 hm) hne
              | some v =>
                rw [hm] at hz
                simp only [Option.getD_some] at hz
                exact R.calm hk (by rw [hm]; exact hz)
            · have : k = 0 := by omega
              subst this
              simp only [rnds, Option.some.injEq, Prod.mk.injEq] at h2
              obtain ⟨_, _, _, rfl⟩ := h2
              simp at hz
              exact absurd hz h0

theorem runN_ran {s : Smp} {rounds : Int} {P : List Pl} {T M : List Int} (h : runN s rounds = some (P, T, M)) :
    isSample s = true ∧ s.1 ≠ [] ∧ 1 ≤ rounds ∧ rounds ≤ 12 ∧ ∃ q ps, P = p0 s :: ps ∧ rnds (s.1.zip s.2) rounds.toNat (p0 s) = some (q, ps, T, M) ∧ Ran (s.1.zip s.2) (s.1.headD []).length rounds.toNat (p0 s) q ps T M := by
  unfold runN at h
  split at h
  · rename_i hc
    simp only [Bool.and_eq_true, Bool.not_eq_true', beq_eq_false_iff_ne, ne_eq] at hc
    obtain ⟨⟨h1, h2⟩, h3⟩ := hc
    have hne : s.1 ≠ [] := fun e => h2 (by simp [e])
    split at h
    · cases h
    · rename_i q ps tr ms hr
      simp only [Option.some.injEq, Prod.mk.injEq] at h
      obtain ⟨rfl, rfl, rfl⟩ := h
      have hw := within_iff.1 h3
      exact ⟨h1, hne, hw.1, hw.2, q, ps, rfl, hr, rnds_ran (zip_d (runs_of h1 hne)) (by simp [p0]) hr⟩
  · cases h

theorem p0_plane {s : Smp} (h : isSample s = true) (hn : s.1 ≠ []) : isPlane (p0 s) = true := by
  have H := runs_of h hn
  have h1 : 1 ≤ (s.1.headD []).length := by
    simp only [isSample, Bool.and_eq_true, decide_eq_true_eq, List.all_eq_true, beq_iff_eq] at h
    cases hs : s.1 with
    | nil => exact absurd hs hn
    | cons y r => exact (isPoint_len (h.1.2 y (by rw [hs]; simp)).1).1
  have h2 := H.2.2.1
  simp only [isPlane, p0, Bool.and_eq_true, within_iff, List.length_replicate, allIn, List.all_eq_true]
  refine ⟨⟨⟨by omega, by omega⟩, fun x hx => ?_⟩, by omega, by omega⟩
  have := List.eq_of_mem_replicate hx
  subst this
  simp [within]

def lastD (P : List Pl) : Pl := P.getLastD ([], 0)

theorem get_last (P : List Pl) (h : P ≠ []) (hs : P.length ≤ 1000) : getI P (w64 ((P.length : Int) - 1)) = some (lastD P) := by
  have hl : 0 < P.length := by cases P <;> simp_all
  rw [w64_id (by omega) (by omega), show ((P.length : Int) - 1) = ((P.length - 1 : Nat) : Int) by omega, getI_nat, ← List.getLast?_eq_getElem?]
  simp only [lastD, List.getLastD_eq_getLast?]
  cases hP : P.getLast? with
  | none => exact absurd (List.getLast?_eq_none_iff.1 hP) h
  | some v => rfl

theorem ran_len {s : Smp} {rounds : Int} {P : List Pl} {T M : List Int} (h : runN s rounds = some (P, T, M)) : P ≠ [] ∧ P.length ≤ 200 ∧ T.length ≤ 192 ∧ M.length ≤ 12 := by
  obtain ⟨h1, h2, h3, h4, q, ps, rfl, hr, R⟩ := runN_ran h
  have H := runs_of h1 h2
  have e1 := R.short
  have e2 := R.len
  have e3 := R.rounds
  have e4 := zip_len H
  have e5 := H.2.1
  have e6 : rounds.toNat ≤ 12 := by omega
  have e7 : (s.1.zip s.2).length * rounds.toNat ≤ 16 * 12 := Nat.mul_le_mul (by omega) e6
  exact ⟨by simp, by simp; omega, by omega, by omega⟩

theorem m_RunPerceptron (s : Smp) (rounds : Int) : m_impl_RunPerceptron s rounds = some (match runN s rounds with | some (P, T, M) => (lastD P, M, true) | none => (([], 0), [], false)) := by
  simp only [m_impl_RunPerceptron, s_impl_RunPerceptron, den_go, den_call, den_chs, m_runOf, Option.bind_some, theRun]
  cases h : runN s rounds with
  | none => simp
  | some y =>
    obtain ⟨P, T, M⟩ := y
    obtain ⟨h1, h2, _⟩ := ran_len h
    simp [ln_eq, get_last P h1 (by omega)]
theorem m_sRunPerceptron (s : Smp) (rounds : Int) : m_spec_RunPerceptron s rounds = some (match runN s rounds with | some (P, T, M) => (lastD P, M, true) | none => (([], 0), [], false)) := by
  simp only [m_spec_RunPerceptron, s_spec_RunPerceptron, den_go, den_call, den_chs, m_made, Option.bind_some, theRun]
  cases h : runN s rounds with
  | none => simp
  | some y =>
    obtain ⟨P, T, M⟩ := y
    obtain ⟨h1, h2, _⟩ := ran_len h
    simp [ln_eq, get_last P h1 (by omega)]
theorem m_Trace (s : Smp) (rounds : Int) : m_impl_PerceptronTrace s rounds = some (match runN s rounds with | some (P, T, M) => (T, true) | none => ([], false)) := by
  simp only [m_impl_PerceptronTrace, s_impl_PerceptronTrace, den_go, den_call, den_chs, m_runOf, Option.bind_some, theRun]
  cases h : runN s rounds with
  | none => simp
  | some y =>
    obtain ⟨P, T, M⟩ := y
    obtain ⟨h1, h2, h3, _⟩ := ran_len h
    simp [m_copied T (by omega)]
theorem m_sTrace (s : Smp) (rounds : Int) : m_spec_PerceptronTrace s rounds = some (match runN s rounds with | some (P, T, M) => (T, true) | none => ([], false)) := by
  simp only [m_spec_PerceptronTrace, s_spec_PerceptronTrace, den_go, den_call, den_chs, m_made, Option.bind_some, theRun]
  cases h : runN s rounds with
  | none => simp
  | some y =>
    obtain ⟨P, T, M⟩ := y
    simp
end Go.Abs
