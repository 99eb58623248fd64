import Derived.Test.YtkjlebnmeimfnaaPl4
namespace Go.Abs

/-! counts -/
def incs (o : List Int) : List Int → List Int
  | [] => o
  | t :: r => incs (o.set t.toNat (w64 (o.getD t.toNat 0 + 1))) r
theorem incs_len : ∀ (T o : List Int), (incs o T).length = o.length
  | [], o => rfl
  | t :: r, o => by simp [incs, incs_len r]

theorem dual_l0 (x1 : (List Pl × List Int × List Int) × Bool) (n : Nat) (hT : ∀ t ∈ x1.1.2.1, ∃ i : Nat, t = i ∧ i < n) (hl : x1.1.2.1.length ≤ 1000000) : ∀ (r : List Int) (i : Nat) (o : List Int), x1.1.2.1.drop i = r → i ≤ x1.1.2.1.length → o.length = n →
    lrun (fun (u : List Int × Int) => den (impl_DualCounts_l0 x1 u.1 u.2)) (o, (i : Int)) = some (incs o r)
  | [], i, o, hr, hi, ho => by
    have := drop_nil hr hi
    subst this
    refine (lrun_done (d := o) ?_).trans rfl
    simp [impl_DualCounts_l0, ln_eq]
  | t :: r, i, o, hr, hi, ho => by
    obtain ⟨hx, hr', hlt⟩ := drop_cons hr
    obtain ⟨k, rfl, hk⟩ := hT t (List.mem_of_getElem? hx)
    have hi1 : w64 ((i : Int) + 1) = ((i + 1 : Nat) : Int) := w64_nat (by omega)
    have hg : o[k]? = some (o.getD k 0) := by
      rw [List.getD_eq_getElem?_getD, List.getElem?_eq_getElem (by omega)]; rfl
    have st : den (impl_DualCounts_l0 x1 o (i : Int)) = some (.inl (o.set k (w64 (o.getD k 0 + 1)), ((i + 1 : Nat) : Int))) := by
      simp only [impl_DualCounts_l0, den_go, den_brc, den_get, den_idx, den_ld, den_upd, den_ret, ln_eq, getI_nat, hx, Option.bind_some, Int.toNat_natCast, hg, hi1]
      simp [hlt, ho, hk]
    rw [lrun_next st]
    exact dual_l0 x1 n hT hl r (i + 1) _ hr' (by omega) (by simp [ho])
theorem sdual_l0 (x1 : (List Pl × List Int × List Int) × Bool) (n : Nat) (hT : ∀ t ∈ x1.1.2.1, ∃ i : Nat, t = i ∧ i < n) (hl : x1.1.2.1.length ≤ 1000000) : ∀ (r : List Int) (i : Nat) (o : List Int), x1.1.2.1.drop i = r → i ≤ x1.1.2.1.length → o.length = n →
    lrun (fun (u : List Int × Int) => den (spec_DualCounts_l0 x1 u.1 u.2)) (o, (i : Int)) = some (incs o r)
  | [], i, o, hr, hi, ho => by
    have := drop_nil hr hi
    subst this
    refine (lrun_done (d := o) ?_).trans rfl
    simp [spec_DualCounts_l0, ln_eq]
  | t :: r, i, o, hr, hi, ho => by
    obtain ⟨hx, hr', hlt⟩ := drop_cons hr
    obtain ⟨k, rfl, hk⟩ := hT t (List.mem_of_getElem? hx)
    have hi1 : w64 ((i : Int) + 1) = ((i + 1 : Nat) : Int) := w64_nat (by omega)
    have hg : o[k]? = some (o.getD k 0) := by
      rw [List.getD_eq_getElem?_getD, List.getElem?_eq_getElem (by omega)]; rfl
    have st : den (spec_DualCounts_l0 x1 o (i : Int)) = some (.inl (o.set k (w64 (o.getD k 0 + 1)), ((i + 1 : Nat) : Int))) := by
      simp only [spec_DualCounts_l0, den_go, den_brc, den_get, den_idx, den_ld, den_upd, den_ret, ln_eq, getI_nat, hx, Option.bind_some, Int.toNat_natCast, hg, hi1]
      simp [hlt, ho, hk]
    rw [lrun_next st]
    exact sdual_l0 x1 n hT hl r (i + 1) _ hr' (by omega) (by simp [ho])

def dual (s : Smp) (rounds : Int) : List Int × Bool := match runN s rounds with | some (P, T, M) => (incs (List.replicate s.1.length 0) T, true) | none => ([], false)
theorem ran_trace {s : Smp} {rounds : Int} {P : List Pl} {T M : List Int} (h : runN s rounds = some (P, T, M)) : ∀ t ∈ T, ∃ i : Nat, t = i ∧ i < s.1.length := by
  obtain ⟨h1, h2, h3, h4, q, ps, rfl, hr, R⟩ := runN_ran h
  intro t ht
  obtain ⟨i, h5, h6⟩ := R.trace t ht
  rw [zip_len (runs_of h1 h2)] at h6
  exact ⟨i, h5, h6⟩
theorem m_DualCounts (s : Smp) (rounds : Int) : m_impl_DualCounts s rounds = some (dual s rounds) := by
  simp only [m_impl_DualCounts, s_impl_DualCounts, den_go, den_call, den_chs, m_runOf, Option.bind_some, theRun, dual]
  cases h : runN s rounds with
  | none => simp
  | some y =>
    obtain ⟨P, T, M⟩ := y
    obtain ⟨h1, h2, h3, _⟩ := ran_len h
    have hs := (runs_of (runN_ran h).1 (runN_ran h).2.1).2.1
    have L := dual_l0 ((P, T, M), true) s.1.length (ran_trace h) (by simp; omega) T 0 (List.replicate s.1.length 0) rfl (Nat.zero_le _) (by simp)
    have L' : lrun (fun (u : List Int × Int) => den (impl_DualCounts_l0 ((P, T, M), true) u.1 u.2)) (List.replicate s.1.length 0, 0) = _ := L
    have a1 : 0 ≤ (s.1.length : Int) ∧ (s.1.length : Int) * (8 : Nat) ≤ 140737488355328 := by omega
    simp only [den_brc, Bool.not_true, Bool.false_eq_true, if_false, den_go, den_mk, ln_eq, a1, and_self, if_true, den_lp, m_impl_DualCounts_l0, Int.toNat_natCast, L', Option.bind_some, den_ret]
theorem m_sDualCounts (s : Smp) (rounds : Int) : m_spec_DualCounts s rounds = some (dual s rounds) := by
  simp only [m_spec_DualCounts, s_spec_DualCounts, den_go, den_call, den_chs, m_made, Option.bind_some, theRun, dual]
  cases h : runN s rounds with
  | none => simp
  | some y =>
    obtain ⟨P, T, M⟩ := y
    obtain ⟨h1, h2, h3, _⟩ := ran_len h
    have hs := (runs_of (runN_ran h).1 (runN_ran h).2.1).2.1
    have L := sdual_l0 ((P, T, M), true) s.1.length (ran_trace h) (by simp; omega) T 0 (List.replicate s.1.length 0) rfl (Nat.zero_le _) (by simp)
    have L' : lrun (fun (u : List Int × Int) => den (spec_DualCounts_l0 ((P, T, M), true) u.1 u.2)) (List.replicate s.1.length 0, 0) = _ := L
    have a1 : 0 ≤ (s.1.length : Int) ∧ (s.1.length : Int) * (8 : Nat) ≤ 140737488355328 := by omega
    simp only [den_brc, Bool.not_true, Bool.false_eq_true, if_false, den_go, den_mk, ln_eq, a1, and_self, if_true, den_lp, m_spec_DualCounts_l0, Int.toNat_natCast, L', Option.bind_some, den_ret]

/-! the pocket plane -/
def better (s : Smp) (b p : Pl) : Pl := if (mist p s).length < (mist b s).length then p else b
def pocket (s : Smp) (P : List Pl) : Pl := P.foldl (better s) (P.headD ([], 0))

theorem m_Pocket (s : Smp) (rounds : Int) : m_impl_PocketPlane s rounds = some (match runN s rounds with | some (P, T, M) => (pocket s P, true) | none => (([], 0), false)) := by
  simp only [m_impl_PocketPlane, s_impl_PocketPlane, den_go, den_call, den_chs, m_runOf, Option.bind_some, theRun]
  cases h : runN s rounds with
  | none => simp
  | some y =>
    obtain ⟨P, T, M⟩ := y
    obtain ⟨h1, h2, h3, _⟩ := ran_len h
    obtain ⟨g1, g2, g3, g4, q, ps, hP, hr, R⟩ := runN_ran h
    have H := runs_of g1 g2
    have hd : ∀ p ∈ P, p.1.length = (s.1.headD []).length := by
      intro p hp
      rw [hP] at hp
      rcases List.mem_cons.1 hp with rfl | hp
      · simp [p0]
      · exact (R.planes p hp).2
    have hP0 : getI P 0 = some (P.headD ([], 0)) := by rw [getI_zero, hP]; rfl
    have L := lrun_foldI (xs := P) (step := fun (u : List Int × Int × Int) => den (impl_PocketPlane_l0 s ((P, T, M), true) u.1 u.2.1 u.2.2)) (fun i (b : Pl) => (b.1, b.2, (i : Int))) (better s) (fun b => b) (fun _ b => b.1.length = (s.1.headD []).length)
      (fun i b p hb hx => by
        have hi := (List.getElem?_eq_some_iff.1 hx).1
        have hp := hd p (List.mem_of_getElem? hx)
        refine ⟨?_, by unfold better; split <;> assumption⟩
        have hi1 : w64 ((i : Int) + 1) = ((i + 1 : Nat) : Int) := w64_nat (by omega)
        simp only [impl_PocketPlane_l0, den_go, den_brc, den_get, den_call, den_ret, ln_eq, getI_nat, hx, Option.bind_some, m_mistakes _ s H hp, m_mistakes (b.1, b.2) s H hb, hi1, better]
        simp only [Int.ofNat_lt, hi, decide_true, if_true]
        by_cases g : (mist p s).length < (mist b s).length <;> simp [g])
      (fun b hb => by simp [impl_PocketPlane_l0, ln_eq]) (P.headD ([], 0)) (by rw [hP]; simp [p0])
    have L' : lrun (fun (u : List Int × Int × Int) => den (impl_PocketPlane_l0 s ((P, T, M), true) u.1 u.2.1 u.2.2)) ((P.headD ([], 0)).1, (P.headD ([], 0)).2, 0) = _ := L
    simp only [den_brc, Bool.not_true, Bool.false_eq_true, if_false, den_go, den_get, hP0, Option.bind_some, den_lp, m_impl_PocketPlane_l0, L', den_ret, pocket]

theorem spocket_l0 (s : Smp) (x1 : (List Pl × List Int × List Int) × Bool) {d : Nat} (H : Runs s d) (hd : ∀ p ∈ x1.1.1, p.1.length = d) (hl : x1.1.1.length ≤ 1000) : ∀ (r : List Pl) (i k : Nat) (b : Pl), x1.1.1.drop i = r → i ≤ x1.1.1.length → x1.1.1[k]? = some b →
    ∃ j : Nat, lrun (fun (u : Int × Int) => den (spec_PocketPlane_l0 s x1 u.1 u.2)) ((k : Int), (i : Int)) = some (j : Int) ∧ x1.1.1[j]? = some (r.foldl (better s) b)
  | [], i, k, b, hr, hi, hb => by
    have := drop_nil hr hi
    subst this
    exact ⟨k, lrun_done (by simp [spec_PocketPlane_l0, ln_eq]), hb⟩
  | p :: r, i, k, b, hr, hi, hb => by
    obtain ⟨hx, hr', hlt⟩ := drop_cons hr
    have hi1 : w64 ((i : Int) + 1) = ((i + 1 : Nat) : Int) := w64_nat (by omega)
    have hpd := hd p (List.mem_of_getElem? hx)
    have hbd := hd b (List.mem_of_getElem? hb)
    have st : den (spec_PocketPlane_l0 s x1 (k : Int) (i : Int)) = some (.inl (if (mist p s).length < (mist b s).length then (i : Int) else (k : Int), ((i + 1 : Nat) : Int))) := by
      simp only [spec_PocketPlane_l0, den_go, den_brc, den_get, den_call, den_ret, ln_eq, getI_nat, hx, hb, Option.bind_some, m_l2Mistakes p s H hpd, m_l2Mistakes b s H hbd, hi1]
      simp only [Int.ofNat_lt, hlt, decide_true, if_true]
      by_cases g : (mist p s).length < (mist b s).length <;> simp [g]
    rw [lrun_next st]
    simp only [List.foldl_cons, better]
    by_cases g : (mist p s).length < (mist b s).length
    · simp only [g, if_true]
      exact spocket_l0 s x1 H hd hl r (i + 1) i p hr' (by omega) hx
    · simp only [g, if_false]
      exact spocket_l0 s x1 H hd hl r (i + 1) k b hr' (by omega) hb

theorem m_sPocket (s : Smp) (rounds : Int) : m_spec_PocketPlane s rounds = some (match runN s rounds with | some (P, T, M) => (pocket s P, true) | none => (([], 0), false)) := by
  simp only [m_spec_PocketPlane, s_spec_PocketPlane, den_go, den_call, den_chs, m_made, Option.bind_some, theRun]
  cases h : runN s rounds with
  | none => simp
  | some y =>
    obtain ⟨P, T, M⟩ := y
    obtain ⟨h1, h2, h3, _⟩ := ran_len h
    obtain ⟨g1, g2, g3, g4, q, ps, hP, hr, R⟩ := runN_ran h
    have H := runs_of g1 g2
    have hd : ∀ p ∈ P, p.1.length = (s.1.headD []).length := by
      intro p hp
      rw [hP] at hp
      rcases List.mem_cons.1 hp with rfl | hp
      · simp [p0]
      · exact (R.planes p hp).2
    obtain ⟨j, L, hj⟩ := spocket_l0 s ((P, T, M), true) H hd (by simp; omega) ps 1 0 (p0 s) (by simp [hP]) (by simp [hP]) (by simp [hP])
    have L' : lrun (fun (u : Int × Int) => den (spec_PocketPlane_l0 s ((P, T, M), true) u.1 u.2)) (0, 1) = _ := L
    have hj' : getI P (j : Int) = some (ps.foldl (better s) (p0 s)) := by rw [getI_nat]; exact hj
    have e : pocket s P = ps.foldl (better s) (p0 s) := by
      simp [pocket, hP, better]
    simp only [den_brc, Bool.not_true, Bool.false_eq_true, if_false, den_go, den_lp, m_spec_PocketPlane_l0, L', Option.bind_some, den_get, hj', den_ret, e]

theorem foldl_better (s : Smp) : ∀ (P : List Pl) (b : Pl), (P.foldl (better s) b = b ∨ P.foldl (better s) b ∈ P) ∧ (mist (P.foldl (better s) b) s).length ≤ (mist b s).length ∧ ∀ p ∈ P, (mist (P.foldl (better s) b) s).length ≤ (mist p s).length
  | [], b => by simp
  | p :: r, b => by
    obtain ⟨h1, h2, h3⟩ := foldl_better s r (better s b p)
    simp only [List.foldl_cons]
    have hb : better s b p = b ∨ better s b p = p := by unfold better; split <;> simp
    have hb1 : (mist (better s b p) s).length ≤ (mist b s).length := by unfold better; split <;> omega
    have hb2 : (mist (better s b p) s).length ≤ (mist p s).length := by unfold better; split <;> omega
    refine ⟨?_, by omega, fun p' hp' => ?_⟩
    · rcases h1 with h1 | h1
      · rw [h1]
        rcases hb with hb | hb
        · exact .inl hb
        · right; rw [hb]; simp
      · exact .inr (List.mem_cons_of_mem _ h1)
    · rcases List.mem_cons.1 hp' with rfl | hp'
      · omega
      · exact h3 p' hp'
theorem pocket_best (s : Smp) {P : List Pl} (hP : P ≠ []) : pocket s P ∈ P ∧ ∀ p ∈ P, (mist (pocket s P) s).length ≤ (mist p s).length := by
  obtain ⟨h1, h2, h3⟩ := foldl_better s P (P.headD ([], 0))
  refine ⟨?_, h3⟩
  rcases h1 with h1 | h1
  · unfold pocket
    rw [h1]
    cases P with
    | nil => exact absurd rfl hP
    | cons p r => simp
  · exact h1

/-! comparing -/
theorem m_vInts (a b : List Int) (h : a.length < 9223372036854775807) : m_laws_vInts a b = some (decide (a = b)) := by
  simp only [m_laws_vInts, s_laws_vInts, den_go, den_brc, ln_eq, den_ret, den_lp2, m_laws_vInts_l0]
  by_cases hl : a.length = b.length
  · have L := lrun_all (xs := a.zip b) (step := fun t => den (laws_vInts_l0 a b t)) (fun i => (i : Int)) (fun z => z.1 == z.2) (.inr ()) (.inl ())
      (fun i z hz => by
        obtain ⟨x, y⟩ := z
        obtain ⟨hx, hy⟩ := List.getElem?_zip_eq_some.1 hz
        have hi := (List.getElem?_eq_some_iff.1 hx).1
        have hi1 : w64 ((i : Int) + 1) = ((i + 1 : Nat) : Int) := w64_nat (by omega)
        simp only [laws_vInts_l0, den_go, den_brc, den_get, den_ret, ln_eq, getI_nat, hx, hy, Option.bind_some, hi1]
        simp only [Int.ofNat_lt, hi, decide_true, if_true]
        by_cases g : x = y <;> simp [g])
      (by simp [laws_vInts_l0, ln_eq, hl])
    have e : lrun (fun t => den (laws_vInts_l0 a b t)) 0 = _ := L
    have key : ∀ (a b : List Int), a.length = b.length → ((a.zip b).all fun z => z.1 == z.2) = decide (a = b) := by
      intro a
      induction a with
      | nil => intro b h; cases b <;> simp_all
      | cons x a ih =>
        intro b h
        cases b with
        | nil => simp at h
        | cons y b =>
          simp only [List.zip_cons_cons, List.all_cons, ih b (by simpa using h), List.cons.injEq]
          by_cases g : x = y <;> simp [g]
    rw [e, key a b hl]
    simp only [hl, bne_self_eq_false, Bool.false_eq_true, if_false, Option.bind_some]
    by_cases g : a = b <;> simp [g]
  · have h1 : ((a.length : Int) != b.length) = true := by simpa using fun h => hl (by omega)
    have h2 : ¬ (a = b) := fun h => hl (by rw [h])
    simp [h1, h2]
theorem m_vPlane (a b : Pl) (h : a.1.length < 9223372036854775807) : m_laws_vPlane a b = some (decide (a = b)) := by
  obtain ⟨a1, a2⟩ := a
  obtain ⟨b1, b2⟩ := b
  simp only [m_laws_vPlane, s_laws_vPlane, den_go, den_br, den_call, den_ret, m_vInts a1 b1 h, Option.bind_some]
  by_cases g : a1 = b1
  · by_cases g2 : a2 = b2 <;> simp [g, g2]
  · simp [g]

def w64sum (l : List Int) : Int := l.foldl (fun n x => w64 (n + x)) 0
theorem m_vAdd (l : List Int) (h : l.length < 9223372036854775807) : m_laws_vAdd l = some (w64sum l) := by
  have L := lrun_fold (xs := l) (step := fun (u : Int × Int) => den (laws_vAdd_l0 l u.1 u.2)) (fun i (n : Int) => (n, (i : Int))) (fun n x => w64 (n + x)) (fun n => n)
    (fun i n x hx => by
      have hi := (List.getElem?_eq_some_iff.1 hx).1
      have hi1 : w64 ((i : Int) + 1) = ((i + 1 : Nat) : Int) := w64_nat (by omega)
      simp only [laws_vAdd_l0, den_go, den_brc, den_get, den_ret, ln_eq, getI_nat, hx, Option.bind_some, hi1]
      simp [hi])
    (fun n => by simp [laws_vAdd_l0, ln_eq]) 0
  have L' : lrun (fun (u : Int × Int) => den (laws_vAdd_l0 l u.1 u.2)) (0, 0) = _ := L
  simp only [m_laws_vAdd, s_laws_vAdd, den_go, den_lp, m_laws_vAdd_l0, L', Option.bind_some, den_ret, w64sum]

theorem beq_natCast (a b : Nat) : ((a : Int) == (b : Int)) = (a == b) := by
  by_cases h : a = b
  · simp [h]
  · have : ¬ ((a : Int) = b) := by omega
    rw [beq_eq_false_iff_ne.2 h, beq_eq_false_iff_ne.2 this]
theorem beq_natCast0 (a : Nat) : ((a : Int) == 0) = (a == 0) := beq_natCast a 0

/-! what goes together -/
def suits (s : Smp) (p : Pl) : Bool := isSample s && isPlane p && (s.1.length == 0 || (s.1.headD []).length == p.1.length)
theorem m_suits (s : Smp) (p : Pl) : m_impl_suits s p = some (suits s p) := by
  simp only [m_impl_suits, s_impl_suits, den_go, den_br, den_call, den_ret, den_get, m_IsSample, m_IsPlane, Option.bind_some, ln_eq, suits]
  cases isSample s with
  | false => simp
  | true =>
    cases isPlane p with
    | false => simp
    | true =>
      cases hs : s.1 with
      | nil => simp
      | cons y r =>
        have : ¬ ((y :: r).length : Int) = 0 := by simp; omega
        simp only [if_true, beq_iff_eq, this, if_false, getI_zero, List.getElem?_cons_zero, Option.bind_some, Bool.and_self, Bool.true_and, List.headD_cons]
        have h2 : ¬ ((y :: r).length = 0) := by simp
        simp [beq_natCast]
theorem suits_runs {s : Smp} {p : Pl} (h : suits s p = true) : Runs s p.1.length := by
  simp only [suits, Bool.and_eq_true, Bool.or_eq_true, beq_iff_eq] at h
  obtain ⟨⟨h1, h2⟩, h3⟩ := h
  have h4 := (isPlane_len h2).2
  by_cases hn : s.1 = []
  · have h1' := h1
    simp only [isSample, Bool.and_eq_true, decide_eq_true_eq] at h1
    exact ⟨h1.1.1.2, h1.1.1.1, h4, by simp [hn]⟩
  · have H := runs_of h1 hn
    have : (s.1.headD []).length = p.1.length := by
      rcases h3 with h3 | h3
      · exact absurd (List.eq_nil_of_length_eq_zero h3) hn
      · exact h3
    rw [this] at H
    exact H

theorem m_MistakesOf (s : Smp) (p : Pl) : m_impl_MistakesOf s p = some (if suits s p then (mist p s, true) else ([], false)) := by
  simp only [m_impl_MistakesOf, s_impl_MistakesOf, den_go, den_call, den_chs, m_suits, Option.bind_some, den_brc, den_ret]
  cases h : suits s p with
  | false => simp
  | true => simp [m_mistakes p s (suits_runs h) rfl]
theorem m_FitsSample (s : Smp) (p : Pl) : m_impl_FitsSample s p = some (if suits s p then ((mist p s).length == 0, true) else (false, false)) := by
  simp only [m_impl_FitsSample, s_impl_FitsSample, den_go, den_call, den_chs, m_suits, Option.bind_some, den_brc, den_ret]
  cases h : suits s p with
  | false => simp
  | true =>
    simp only [m_mistakes p s (suits_runs h) rfl, ln_eq, Bool.not_true, Bool.false_eq_true, if_false, Option.bind_some, if_true, den_go, den_ret]
    rw [beq_natCast0]

def meets (p : Pl) (x : List Int) : Bool := isPlane p && isPoint x && x.length == p.1.length
theorem m_meets (p : Pl) (x : List Int) : m_impl_meets p x = some (meets p x) := by
  simp only [m_impl_meets, s_impl_meets, den_go, den_br, den_call, den_ret, m_IsPlane, m_IsPoint, Option.bind_some, ln_eq, meets]
  rw [beq_natCast]
  cases isPlane p <;> cases isPoint x <;> simp
theorem m_StepPerceptron (p : Pl) (x : List Int) (l : Int) : m_impl_StepPerceptron p x l = some (if meets p x && isLabel l && isPlane (stepP p x l).1 then ((stepP p x l).1, (stepP p x l).2, true) else (([], 0), false, false)) := by
  simp only [m_impl_StepPerceptron, s_impl_StepPerceptron, den_go, den_br, den_brc, den_brk, den_call, den_chs, den_ret, m_meets, m_isLabel, Option.bind_some]
  cases h1 : meets p x with
  | false => simp
  | true =>
    simp only [meets, Bool.and_eq_true, beq_iff_eq] at h1
    have h4 := isPoint_len h1.1.2
    cases h2 : isLabel l with
    | false => simp
    | true =>
      simp only [Bool.not_true, Bool.false_eq_true, if_false, m_step p x l h1.2.symm (by omega), Option.bind_some, m_IsPlane, Bool.true_and]
      cases h3 : isPlane (stepP p x l).1 with
      | false => simp
      | true =>
        have := (isPlane_len h3).2
        simp [m_copied (stepP p x l).1.1 (by omega)]
end Go.Abs
