import Derived.Test.YtkjlebnmeimfnaaPl2
namespace Go.Abs

theorem stepP_same {p : Pl} {x : List Int} {l : Int} (h : (stepP p x l).2 = false) : (stepP p x l).1 = p := by
  unfold stepP at h ⊢
  split at h
  · rename_i g; simp [g]
  · cases h

theorem made_l1 (s : Smp) (rounds : Int) (o : List Int) (t : Int) {d : Nat} (H : Runs s d) : ∀ (r : List (List Int × Int)) (i : Nat) (p : Pl) (pre : List Pl) (tr : List Int) (m : Nat), (s.1.zip s.2).drop i = r → i ≤ s.1.length → p.1.length = d →
    pre.length + r.length ≤ 1000 → tr.length + r.length ≤ 1000 → m + r.length ≤ 1000 →
    lrun (fun (u : List Pl × List Int × Int × Int) => den (spec_l3Made_l1 s rounds o t u.1 u.2.1 u.2.2.1 u.2.2.2)) (pre ++ [p], tr, (m : Int), (i : Int)) =
      some (match row r i p with
        | none => .inl ()
        | some (q, ps', tr') => .inr (pre ++ [p] ++ ps', tr ++ tr', ((m + tr'.length : Nat) : Int)))
  | [], i, p, pre, tr, m, hr, hi, hp, h1, h2, h3 => by
    have : i = s.1.length := by
      have := drop_nil hr (by simp [H.1, hi])
      simpa [H.1] using this
    subst this
    refine (lrun_done (d := .inr (pre ++ [p], tr, (m : Int))) ?_).trans ?_
    · simp [spec_l3Made_l1, ln_eq]
    · simp [row]
  | z :: r, i, p, pre, tr, m, hr, hi, hp, h1, h2, h3 => by
    obtain ⟨hz, hr', hlt⟩ := drop_cons hr
    obtain ⟨x, l⟩ := z
    obtain ⟨hx, hl⟩ := List.getElem?_zip_eq_some.1 hz
    have hi' := (List.getElem?_eq_some_iff.1 hx).1
    have hxd := H.2.2.2 x (List.mem_of_getElem? hx)
    have hd := H.2.2.1
    have h16 := H.2.1
    simp only [List.length_cons] at h1 h2 h3
    have hm : w64 ((m : Int) + 1) = ((m + 1 : Nat) : Int) := w64_nat (by omega)
    have hi1 : w64 ((i : Int) + 1) = ((i + 1 : Nat) : Int) := w64_nat (by omega)
    have hk : w64 (((pre ++ [p]).length : Int) - 1) = (pre.length : Int) := by rw [w64_id] <;> simp <;> omega
    have hk1 : 0 ≤ (pre.length : Int) ∧ (pre.length : Int) < ((pre ++ [p]).length : Int) := by simp; omega
    have hkg : (pre ++ [p])[pre.length]? = some p := by simp
    have a1 : ((pre ++ [p]).length + [(stepP p x l).1].length) * 32 ≤ 140737488355328 := by simp; omega
    have a2 : (tr.length + [(i : Int)].length) * 8 ≤ 140737488355328 := by simp; omega
    have hn := stepP_len (l := l) (hp.trans hxd.symm)
    have st : den (spec_l3Made_l1 s rounds o t (pre ++ [p]) tr (m : Int) (i : Int)) = some (if isPlane (stepP p x l).1 then
        .inl (if (stepP p x l).2 then (pre ++ [p] ++ [(stepP p x l).1], tr ++ [(i : Int)], ((m + 1 : Nat) : Int), ((i + 1 : Nat) : Int)) else (pre ++ [p], tr, (m : Int), ((i + 1 : Nat) : Int)))
        else .inr (.inl ())) := by
      simp only [spec_l3Made_l1, den_go, den_brc, den_get, den_call, den_ret, den_chs, den_app, den_idx, den_ld, ln_eq, hk, hk1, and_self, if_true, Int.toNat_natCast, hkg, getI_nat, hx, hl, Option.bind_some, m_l3Step p x l (by omega) (by omega), m_l2Plane, hm, hi1, a1, a2]
      simp only [Int.ofNat_lt, hi', decide_true, if_true]
      cases isPlane (stepP p x l).1 <;> cases (stepP p x l).2 <;> simp
    unfold row
    cases g : isPlane (stepP p x l).1 with
    | false =>
      rw [g] at st
      rw [lrun_done st]
      simp
    | true =>
      rw [g] at st
      simp only [if_true] at st ⊢
      rw [lrun_next st]
      cases g2 : (stepP p x l).2 with
      | true =>
        simp only [if_true]
        rw [made_l1 s rounds o t H r (i + 1) (stepP p x l).1 (pre ++ [p]) (tr ++ [(i : Int)]) (m + 1) hr' (by omega) (by omega) (by simp; omega) (by simp; omega) (by omega)]
        cases row r (i + 1) (stepP p x l).1 with
        | none => rfl
        | some y => obtain ⟨q, ps', tr'⟩ := y; simp; omega
      | false =>
        simp only [if_false, Bool.false_eq_true]
        rw [made_l1 s rounds o t H r (i + 1) p pre tr m hr' (by omega) (by omega) (by omega) (by omega) (by omega), stepP_same g2]
        cases row r (i + 1) p with
        | none => rfl
        | some y => rfl

theorem row_last : ∀ {zs : List (List Int × Int)} {i : Nat} {p q : Pl} {ps : List Pl} {tr : List Int} {pre : List Pl}, row zs i p = some (q, ps, tr) → ∃ pre', pre ++ [p] ++ ps = pre' ++ [q]
  | [], i, p, q, ps, tr, pre, h => by simp only [row, Option.some.injEq, Prod.mk.injEq] at h; obtain ⟨rfl, rfl, _⟩ := h; exact ⟨pre, by simp⟩
  | z :: r, i, p, q, ps, tr, pre, h => by
    unfold row at h
    split at h
    · split at h
      · rename_i q' ps' tr' h1
        split at h
        · simp only [Option.some.injEq, Prod.mk.injEq] at h
          obtain ⟨rfl, rfl, _⟩ := h
          obtain ⟨pre', h2⟩ := row_last (pre := pre ++ [p]) h1
          exact ⟨pre', by rw [← h2]; simp⟩
        · rename_i hf
          simp only [Option.some.injEq, Prod.mk.injEq] at h
          obtain ⟨rfl, rfl, _⟩ := h
          rw [stepP_same (by simpa using hf)] at h1
          exact row_last h1
      · cases h
    · cases h

theorem made_l0 (s : Smp) (rounds : Int) {d : Nat} (H : Runs s d) : ∀ (k : Nat) (t : Nat) (p : Pl) (pre : List Pl) (tr ms : List Int), (t : Int) + k = rounds → t + k ≤ 12 → p.1.length = d →
    pre.length + 16 * k ≤ 900 → tr.length + 16 * k ≤ 900 → ms.length + k ≤ 900 →
    ∃ c : Bool, lrun (fun (u : List Pl × List Int × List Int × Int) => den (spec_l3Made_l0 s rounds u.1 u.2.1 u.2.2.1 u.2.2.2)) (pre ++ [p], tr, ms, (t : Int)) =
      some (match rnds (s.1.zip s.2) k p with
        | none => .inl ()
        | some (q, ps', tr', ms') => .inr (if c then .inl (pre ++ [p] ++ ps', tr ++ tr', ms ++ ms') else .inr (pre ++ [p] ++ ps', tr ++ tr', ms ++ ms')))
  | 0, t, p, pre, tr, ms, ht, h12, hp, h1, h2, h3 => by
    refine ⟨false, (lrun_done (d := .inr (.inr (pre ++ [p], tr, ms))) ?_).trans ?_⟩
    · have : ¬ ((t : Int) < rounds) := by omega
      simp [spec_l3Made_l0, this]
    · simp [rnds]
  | k + 1, t, p, pre, tr, ms, ht, h12, hp, h1, h2, h3 => by
    have hl := zip_len H
    have h16 := H.2.1
    have L := made_l1 s rounds ms t H (s.1.zip s.2) 0 p pre tr 0 rfl (Nat.zero_le _) hp (by omega) (by omega) (by omega)
    have hlt : (t : Int) < rounds := by omega
    have ht1 : w64 ((t : Int) + 1) = ((t + 1 : Nat) : Int) := w64_nat (by omega)
    unfold rnds
    cases hrow : row (s.1.zip s.2) 0 p with
    | none =>
      rw [hrow] at L
      refine ⟨false, (lrun_done (d := .inl ()) ?_).trans rfl⟩
      simp only [spec_l3Made_l0, den_go, den_brc, hlt, decide_true, if_true, den_lp2, m_spec_l3Made_l1]
      have L' : lrun _ (pre ++ [p], tr, (0 : Int), (0 : Int)) = _ := L
      rw [L']
      simp
    | some y =>
      obtain ⟨q, ps', tr'⟩ := y
      rw [hrow] at L
      have hrl := row_len hrow
      have hqd := row_end (zip_d H) hp hrow
      have L' : lrun _ (pre ++ [p], tr, (0 : Int), (0 : Int)) = _ := L
      have a1 : (ms.length + [((tr'.length : Nat) : Int)].length) * 8 ≤ 140737488355328 := by simp; omega
      have st : den (spec_l3Made_l0 s rounds (pre ++ [p]) tr ms (t : Int)) = some (if tr' = [] then .inr (.inr (.inl (pre ++ [p] ++ ps', tr ++ tr', ms ++ [((tr'.length : Nat) : Int)]))) else
          .inl (pre ++ [p] ++ ps', tr ++ tr', ms ++ [((tr'.length : Nat) : Int)], ((t + 1 : Nat) : Int))) := by
        simp only [spec_l3Made_l0, den_go, den_brc, hlt, decide_true, if_true, den_lp2, m_spec_l3Made_l1]
        rw [L']
        simp only [Option.bind_some, Sum.elim_inr, den_go, den_chs, den_app, den_brc, den_ret, Nat.zero_add, a1, if_true, ht1]
        by_cases h0 : tr' = []
        · simp [h0]
        · have : ¬ ((tr'.length : Int) = 0) := by
            intro h
            exact h0 (List.eq_nil_of_length_eq_zero (by omega))
          simp [h0, this]
      by_cases h0 : tr' = []
      · simp only [h0, if_true] at st ⊢
        refine ⟨true, ?_⟩
        rw [lrun_done st]
        simp
      · simp only [h0, if_false] at st ⊢
        obtain ⟨pre', hpre⟩ := row_last (pre := pre) hrow
        have hpl : pre'.length ≤ pre.length + ps'.length := by
          have := congrArg List.length hpre
          simp at this
          omega
        obtain ⟨c, hc⟩ := made_l0 s rounds H k (t + 1) q pre' (tr ++ tr') (ms ++ [((tr'.length : Nat) : Int)]) (by omega) (by omega) hqd (by omega) (by simp; omega) (by simp; omega)
        refine ⟨c, ?_⟩
        rw [lrun_next st, hpre, hc]
        cases rnds (s.1.zip s.2) k q with
        | none => rfl
        | some y => obtain ⟨q', ps'', tr'', ms''⟩ := y; rw [← hpre]; simp

theorem m_made (s : Smp) (rounds : Int) : m_spec_l3Made s rounds = some (theRun s rounds) := by
  simp only [m_spec_l3Made, s_spec_l3Made, den_go, den_call, m_l2Sample, Option.bind_some, den_br, den_brk, den_brc, den_chs, den_ret, ln_eq, m_l1In, theRun, runN]
  cases h1 : isSample s with
  | false => simp
  | true =>
    by_cases h2 : s.1 = []
    · simp [h2]
    · have h2' : ¬ ((s.1.length : Int) = 0) := by
        intro h
        exact h2 (List.eq_nil_of_length_eq_zero (by omega))
      have h2n : ¬ (s.1.length = 0) := by omega
      cases h3 : within rounds 1 12 with
      | false => simp [h2', h2n]
      | true =>
        have H := runs_of h1 h2
        have hw := within_iff.1 h3
        obtain ⟨y, r, hy⟩ : ∃ y r, s.1 = y :: r := by
          cases hs : s.1 with
          | nil => exact absurd hs h2
          | cons y r => exact ⟨y, r, rfl⟩
        have hyd : s.1.headD [] = y := by rw [hy]; rfl
        have hy4 : y.length ≤ 4 := by have := H.2.2.1; rw [hyd] at this; exact this
        have hg : getI s.1 0 = some y := by rw [getI_zero, hy]; rfl
        obtain ⟨c, L⟩ := made_l0 s rounds H rounds.toNat 0 (p0 s) [] [] [] (by omega) (by omega) (by simp [p0]) (by simp; omega) (by simp; omega) (by simp; omega)
        simp only [p0, hyd] at L
        have L' : lrun (fun (u : List Pl × List Int × List Int × Int) => den (spec_l3Made_l0 s rounds u.1 u.2.1 u.2.2.1 u.2.2.2)) ([(List.replicate y.length 0, 0)], [], [], 0) = _ := L
        have a1 : 0 ≤ (y.length : Int) ∧ (y.length : Int) * (8 : Nat) ≤ 140737488355328 := by omega
        simp only [Bool.not_true, Bool.false_eq_true, if_false, beq_iff_eq, h2', h2n, den_get, hg, Option.bind_some, den_mk, a1, and_self, if_true, den_frz, den_go, den_chs, den_lp3, m_spec_l3Made_l0, ln_eq, Int.toNat_natCast, Bool.and_self, decide_false, Bool.not_false]
        rw [L']
        simp only [p0, hyd]
        cases rnds (s.1.zip s.2) rounds.toNat (List.replicate y.length 0, 0) with
        | none => simp [h2n]
        | some y => obtain ⟨q, ps, tr, ms⟩ := y; cases c <;> simp [h2n]
end Go.Abs
