import Derived.Test.YtkjlebnmeimfnaaPl9
namespace Go.Abs
open Go.Proofs

/-! the steps again, one by one -/
structure Good (s : Smp) : Prop where
  smp : isSample s = true
  ne : s.1 ≠ []

theorem good_point {s : Smp} (h : isSample s = true) {i : Nat} {x : List Int} {l : Int} (hx : s.1[i]? = some x) (hl : s.2[i]? = some l) : isPoint x = true ∧ x.length = (s.1.headD []).length ∧ isLabel l = true := by
  simp only [isSample, Bool.and_eq_true, decide_eq_true_eq, List.all_eq_true, beq_iff_eq] at h
  obtain ⟨⟨⟨h1, h2⟩, h3⟩, h4⟩ := h
  have := h3 x (List.mem_of_getElem? hx)
  exact ⟨this.1, this.2, h4 l (List.mem_of_getElem? hl)⟩

theorem replay_l1 (s : Smp) (rr : Int) (x3 : Pl × List Int × Bool) (x5 : List Int × Bool) (at0 rd : Int) (hs : isSample s = true) (hn : s.1 ≠ []) (hT : x5.1.length ≤ 1000) : ∀ (r : List (List Int × Int)) (i : Nat) (p q : Pl) (ps : List Pl) (tr rest : List Int) (a : Nat), (s.1.zip s.2).drop i = r → i ≤ s.1.length → isPlane p = true → p.1.length = (s.1.headD []).length → row r i p = some (q, ps, tr) → x5.1.drop a = tr ++ rest → a ≤ x5.1.length →
    lrun (fun (u : List Int × Int × Int × Int) => den (laws_FnPerceptrons_l1 (s, rr) x3 x5 at0 rd u.1 u.2.1 u.2.2.1 u.2.2.2)) (p.1, p.2, (a : Int), (i : Int)) = some (.inr (q.1, q.2, ((a + tr.length : Nat) : Int)))
  | [], i, p, q, ps, tr, rest, a, hr, hi, hp, hpd, h, hd, ha => by
    have H := runs_of hs hn
    have : i = s.1.length := by
      have := drop_nil hr (by rw [zip_len H]; exact hi)
      rw [zip_len H] at this
      exact this
    subst this
    simp only [row, Option.some.injEq, Prod.mk.injEq] at h
    obtain ⟨rfl, _, rfl⟩ := h
    refine lrun_done ?_
    simp [laws_FnPerceptrons_l1, ln_eq]
  | z :: r, i, p, q, ps, tr, rest, a, hr, hi, hp, hpd, h, hd, ha => by
    have H := runs_of hs hn
    obtain ⟨hz, hr', hlt⟩ := drop_cons hr
    obtain ⟨x, l⟩ := z
    obtain ⟨hx, hl⟩ := List.getElem?_zip_eq_some.1 hz
    have hi' := (List.getElem?_eq_some_iff.1 hx).1
    obtain ⟨hpt, hxd, hlab⟩ : isPoint x = true ∧ x.length = (s.1.headD []).length ∧ isLabel l = true := good_point hs hx hl
    have h16 := H.2.1
    have hi1 : w64 ((i : Int) + 1) = ((i + 1 : Nat) : Int) := w64_nat (by omega)
    have ha1 : w64 ((a : Int) + 1) = ((a + 1 : Nat) : Int) := w64_nat (by omega)
    have hn' : (stepP p x l).1.1.length = x.length := stepP_len (l := l) (hpd.trans hxd.symm)
    have hmeets : meets p x = true := by simp only [meets, hp, hpt, Bool.and_self, Bool.true_and, beq_iff_eq]; omega
    unfold row at h
    split at h
    · rename_i hpl
      split at h
      · rename_i q' ps' tr' h1
        have hstep : m_impl_StepPerceptron p x l = some ((stepP p x l).1, (stepP p x l).2, true) := by
          rw [m_StepPerceptron]
          simp only [hmeets, hlab, Bool.and_self, Bool.true_and]
          have : isPlane (stepP p x l).1 = true := hpl
          simp [this]
        split at h
        · rename_i hc
          have hc : (stepP p x l).2 = true := hc
          simp only [Option.some.injEq, Prod.mk.injEq] at h
          obtain ⟨rfl, _, rfl⟩ := h
          obtain ⟨hta, hd', halt⟩ := drop_cons hd
          have hJ : m_laws_FnPerceptrons_j1 (s, rr) x3 x5 rd p.1 p.2 (a : Int) (i : Int) ((stepP p x l).1, (stepP p x l).2, true) = some (.inr ()) := by
            have : ¬ ((a : Int) ≥ (x5.1.length : Int)) := by omega
            simp only [m_laws_FnPerceptrons_j1, laws_FnPerceptrons_j1, den_br, den_brk, den_brc, den_go, den_get, den_ret, ln_eq, hc, this, getI_nat, hta]
            simp
          have st : den (laws_FnPerceptrons_l1 (s, rr) x3 x5 at0 rd p.1 p.2 (a : Int) (i : Int)) = some (.inl ((stepP p x l).1.1, (stepP p x l).1.2, ((a + 1 : Nat) : Int), ((i + 1 : Nat) : Int))) := by
            simp only [laws_FnPerceptrons_l1, den_go, den_brc, den_get, den_call, den_at, den_lp2, den_ret, ln_eq, getI_nat, hx, hl, Option.bind_some, hstep, hJ, Sum.elim_inr, ha1, hi1]
            simp [hi', hc]
          rw [lrun_next st, replay_l1 s rr x3 x5 at0 rd hs hn hT r (i + 1) (stepP p x l).1 q' ps' tr' rest (a + 1) hr' (by omega) hpl (by omega) h1 hd' (by omega)]
          simp only [List.length_cons]
          congr 4
          omega
        · rename_i hc
          have hc : (stepP p x l).2 = false := by simpa using hc
          simp only [Option.some.injEq, Prod.mk.injEq] at h
          obtain ⟨rfl, _, rfl⟩ := h
          have hJ : m_laws_FnPerceptrons_j1 (s, rr) x3 x5 rd p.1 p.2 (a : Int) (i : Int) ((stepP p x l).1, (stepP p x l).2, true) = some (.inr ()) := by
            simp only [m_laws_FnPerceptrons_j1, laws_FnPerceptrons_j1, den_br, den_brk, den_brc, den_go, den_get, den_ret, ln_eq, hc]
            simp
          have st : den (laws_FnPerceptrons_l1 (s, rr) x3 x5 at0 rd p.1 p.2 (a : Int) (i : Int)) = some (.inl ((stepP p x l).1.1, (stepP p x l).1.2, (a : Int), ((i + 1 : Nat) : Int))) := by
            simp only [laws_FnPerceptrons_l1, den_go, den_brc, den_get, den_call, den_at, den_lp2, den_ret, ln_eq, getI_nat, hx, hl, Option.bind_some, hstep, hJ, Sum.elim_inr, hi1]
            simp [hi', hc]
          rw [lrun_next st]
          exact replay_l1 s rr x3 x5 at0 rd hs hn hT r (i + 1) (stepP p x l).1 q' ps' tr' rest a hr' (by omega) hpl (by omega) h1 hd ha
      · cases h
    · cases h

theorem replay_l0 (s : Smp) (rr : Int) (x3 : Pl × List Int × Bool) (x5 : List Int × Bool) (hs : isSample s = true) (hn : s.1 ≠ []) (hT : x5.1.length ≤ 1000) (hM : x3.2.1.length ≤ 1000) : ∀ (k : Nat) (t : Nat) (p q : Pl) (ps : List Pl) (tr ms : List Int) (a : Nat), isPlane p = true → p.1.length = (s.1.headD []).length → rnds (s.1.zip s.2) k p = some (q, ps, tr, ms) →
    x5.1.drop a = tr → a ≤ x5.1.length → x3.2.1.drop t = ms → t ≤ x3.2.1.length →
    lrun (fun (u : List Int × Int × Int × Int) => den (laws_FnPerceptrons_l0 (s, rr) x3 x5 u.1 u.2.1 u.2.2.1 u.2.2.2)) (p.1, p.2, (a : Int), (t : Int)) = some (.inr (q.1, q.2, (x5.1.length : Int)))
  | 0, t, p, q, ps, tr, ms, a, hp, hpd, h, hd, ha, hm, ht => by
    simp only [rnds, Option.some.injEq, Prod.mk.injEq] at h
    obtain ⟨rfl, _, rfl, rfl⟩ := h
    have e1 := drop_nil hd ha
    have e2 := drop_nil hm ht
    subst e1 e2
    refine lrun_done ?_
    simp [laws_FnPerceptrons_l0, ln_eq]
  | k + 1, t, p, q, ps, tr, ms, a, hp, hpd, h, hd, ha, hm, ht => by
    have H := runs_of hs hn
    have ht1 : w64 ((t : Int) + 1) = ((t + 1 : Nat) : Int) := w64_nat (by omega)
    unfold rnds at h
    split at h
    · cases h
    · rename_i q1 ps1 tr1 h1
      have hq1 := row_end (zip_d H) hpd h1
      have hq1p := (row_planes (zip_d H) hpd h1).2.2 hp
      split at h
      · rename_i h0
        simp only [Option.some.injEq, Prod.mk.injEq] at h
        obtain ⟨rfl, _, rfl, rfl⟩ := h
        obtain ⟨_, hm', hlt⟩ := drop_cons hm
        have L := replay_l1 s rr x3 x5 (a : Int) (t : Int) hs hn hT _ 0 p q1 ps1 tr1 [] a rfl (Nat.zero_le _) hp hpd h1 (by simpa using hd) ha
        have L' : lrun (fun (u : List Int × Int × Int × Int) => den (laws_FnPerceptrons_l1 (s, rr) x3 x5 (a : Int) (t : Int) u.1 u.2.1 u.2.2.1 u.2.2.2)) (p.1, p.2, (a : Int), 0) = _ := L
        have st : den (laws_FnPerceptrons_l0 (s, rr) x3 x5 p.1 p.2 (a : Int) (t : Int)) = some (.inl (q1.1, q1.2, ((a + tr1.length : Nat) : Int), ((t + 1 : Nat) : Int))) := by
          simp only [laws_FnPerceptrons_l0, den_go, den_brc, den_lp2, m_laws_FnPerceptrons_l1, L', Option.bind_some, Sum.elim_inr, den_ret, ln_eq, ht1]
          simp [hlt]
        subst h0
        have e1 := drop_nil hd ha
        have e2 := drop_nil hm' (by omega)
        rw [lrun_next st]
        refine lrun_done ?_
        have : ¬ (((t + 1 : Nat) : Int) < (x3.2.1.length : Int)) := by omega
        simp only [laws_FnPerceptrons_l0, den_go, den_brc, den_ret, ln_eq, this, decide_false, Bool.false_eq_true, if_false, List.length_nil, Nat.add_zero, e1]
      · rename_i h0
        split at h
        · cases h
        · rename_i q2 ps2 tr2 ms2 h2
          simp only [Option.some.injEq, Prod.mk.injEq] at h
          obtain ⟨rfl, _, rfl, rfl⟩ := h
          obtain ⟨_, hm', hlt⟩ := drop_cons hm
          have L := replay_l1 s rr x3 x5 (a : Int) (t : Int) hs hn hT _ 0 p q1 ps1 tr1 tr2 a rfl (Nat.zero_le _) hp hpd h1 hd ha
          have L' : lrun (fun (u : List Int × Int × Int × Int) => den (laws_FnPerceptrons_l1 (s, rr) x3 x5 (a : Int) (t : Int) u.1 u.2.1 u.2.2.1 u.2.2.2)) (p.1, p.2, (a : Int), 0) = _ := L
          have st : den (laws_FnPerceptrons_l0 (s, rr) x3 x5 p.1 p.2 (a : Int) (t : Int)) = some (.inl (q1.1, q1.2, ((a + tr1.length : Nat) : Int), ((t + 1 : Nat) : Int))) := by
            simp only [laws_FnPerceptrons_l0, den_go, den_brc, den_lp2, m_laws_FnPerceptrons_l1, L', Option.bind_some, Sum.elim_inr, den_ret, ln_eq, ht1]
            simp [hlt]
          have hal : a + tr1.length ≤ x5.1.length := by
            have := congrArg List.length hd
            simp only [List.length_drop, List.length_append] at this
            omega
          have hd2 : x5.1.drop (a + tr1.length) = tr2 := by
            rw [← List.drop_drop, hd]; simp
          rw [lrun_next st]
          exact replay_l0 s rr x3 x5 hs hn hT hM k (t + 1) q1 q2 ps2 tr2 ms2 (a + tr1.length) hq1p hq1 h2 hd2 hal hm' (by omega)

theorem calm_fits (q : Pl) : ∀ (zs : List (List Int × Int)) (i j : Nat), row zs i q = some (q, [], []) → mistG q zs j = []
  | [], _, _, _ => rfl
  | z :: r, i, j, h => by
    unfold row at h
    split at h
    · split at h
      · rename_i q' ps' tr' h1
        split at h
        · simp at h
        · rename_i hc
          simp only [Option.some.injEq, Prod.mk.injEq] at h
          obtain ⟨rfl, rfl, rfl⟩ := h
          have hc' : (stepP q' z.1 z.2).2 = false := by simpa using hc
          rw [stepP_same hc'] at h1
          rw [mistG_cons]
          have hs : (side q' z.1 == z.2) = true := by
            unfold stepP at hc'
            split at hc'
            · assumption
            · cases hc'
          rw [hs]
          exact calm_fits q' r (i + 1) (j + 1) h1
      · cases h
    · cases h

theorem law_Perceptrons (code : List Int) (h : ∀ b ∈ code, 0 ≤ b ∧ b < 256) : m_laws_FnPerceptrons code = some true := by
  have hbig : m_laws_vBig code = some (decide (code.length > 65536)) := by
    simp only [m_laws_vBig, s_laws_vBig, den_go, den_ret, ln_eq]
    by_cases g : code.length > 65536
    · have : (code.length : Int) > 65536 := by omega
      simp [g, this]
    · have : ¬ (code.length : Int) > 65536 := by omega
      simp [g, this]
  simp only [m_laws_FnPerceptrons, s_laws_FnPerceptrons, den_go, den_call, hbig, Option.bind_some, den_brc, den_ret]
  by_cases hb : code.length > 65536
  · simp [hb]
  · obtain ⟨s, rr, e1⟩ := d_DrawRun code h
    obtain ⟨c1, e2, hc1, hc1l⟩ := d_vCut code h (by omega) 1 (by omega) (by omega)
    obtain ⟨⟨u, list⟩, e3⟩ := d_DrawPOC c1 hc1
    simp only [hb, decide_false, Bool.false_eq_true, if_false, e1, e2, e3, Option.bind_some, m_RunPerceptron, m_sRunPerceptron, m_Trace, m_sTrace, m_DualCounts, m_sDualCounts, m_Pocket, m_sPocket, m_POC, m_sPOC, dual]
    have hpo : (planeOf u list).1.1.length < 9223372036854775807 := by
      unfold planeOf
      split
      · rename_i hc
        simp only [Bool.and_eq_true] at hc
        have := (isPlane_len hc.2).2
        simp only; omega
      · simp
    have hvp : m_laws_vPlane (planeOf u list).1 (planeOf u list).1 = some true := by rw [m_vPlane _ _ hpo]; simp
    cases hrun : runN s rr with
    | none =>
      have v1 : m_laws_vPlane (([], 0) : Pl) ([], 0) = some true := by rw [m_vPlane _ _ (by simp)]; simp
      have v2 : m_laws_vInts [] [] = some true := by rw [m_vInts _ _ (by simp)]; simp
      simp [v1, v2, hvp]
    | some y =>
      obtain ⟨P, T, M⟩ := y
      obtain ⟨g1, g2, g3, g4, q, ps, hP, hr, R⟩ := runN_ran hrun
      obtain ⟨l1, l2, l3, l4⟩ := ran_len hrun
      have H := runs_of g1 g2
      have hlast : lastD P = q := by
        obtain ⟨pre, hpre⟩ := R.last []
        rw [hP]
        have : p0 s :: ps = pre ++ [q] := by simpa using hpre
        rw [this, lastD]
        simp
      have hqP : q ∈ P := by
        obtain ⟨pre, hpre⟩ := R.last []
        have : P = pre ++ [q] := by rw [hP]; simpa using hpre
        rw [this]; simp
      have hq : isPlane q = true := R.end_ (p0_plane g1 g2)
      have hPp : ∀ p ∈ P, isPlane p = true ∧ p.1.length = (s.1.headD []).length := by
        intro p hp
        rw [hP] at hp
        rcases List.mem_cons.1 hp with rfl | hp
        · exact ⟨p0_plane g1 g2, by simp [p0]⟩
        · exact R.planes p hp
      obtain ⟨hkP, hkb⟩ := pocket_best s l1
      have hk := hPp _ hkP
      have hsu : ∀ p ∈ P, suits s p = true := fun p hp => by
        have := hPp p hp
        simp only [suits, g1, this.1, this.2, Bool.and_self, Bool.true_and, beq_self_eq_true, Bool.or_true]
      have hq4 := (isPlane_len hq).2
      have hk4 := (isPlane_len hk.1).2
      have hcl : (incs (List.replicate s.1.length 0) T).length = s.1.length := by rw [incs_len]; simp
      have h16 := H.2.1
      have v1 : m_laws_vPlane q q = some true := by rw [m_vPlane _ _ (by omega)]; simp
      have v2 : m_laws_vInts M M = some true := by rw [m_vInts _ _ (by omega)]; simp
      have v3 : m_laws_vInts T T = some true := by rw [m_vInts _ _ (by omega)]; simp
      have v4 : m_laws_vInts (incs (List.replicate s.1.length 0) T) (incs (List.replicate s.1.length 0) T) = some true := by rw [m_vInts _ _ (by omega)]; simp
      have v5 : m_laws_vPlane (pocket s P) (pocket s P) = some true := by rw [m_vPlane _ _ (by omega)]; simp
      have t1 := told_plane hrun
      obtain ⟨t2, t3⟩ := told_sum hrun
      have a1 : m_laws_vAdd (incs (List.replicate s.1.length 0) T) = some (T.length : Int) := by rw [m_vAdd _ (by omega), t2]
      have a2 : m_laws_vAdd M = some (T.length : Int) := by rw [m_vAdd _ (by omega), t3]
      have hMne : M ≠ [] := R.some_ (by omega)
      have hMl : 0 < M.length := by cases M <;> simp_all
      obtain ⟨y, r, hy⟩ : ∃ y r, s.1 = y :: r := by
        cases hs : s.1 with
        | nil => exact absurd hs g2
        | cons y r => exact ⟨y, r, rfl⟩
      have hyd : s.1.headD [] = y := by rw [hy]; rfl
      have hy4 : y.length ≤ 4 := by have := H.2.2.1; rw [hyd] at this; exact this
      have hg : getI s.1 0 = some y := by rw [getI_zero, hy]; rfl
      obtain ⟨mv, hmv⟩ : ∃ mv, M.getLast? = some mv := by
        cases hm : M.getLast? with
        | none => exact absurd (List.getLast?_eq_none_iff.1 hm) hMne
        | some v => exact ⟨v, rfl⟩
      have hgm : getI M (w64 ((M.length : Int) - 1)) = some mv := by
        rw [w64_id (by omega) (by omega), show ((M.length : Int) - 1) = ((M.length - 1 : Nat) : Int) by omega, getI_nat, ← List.getLast?_eq_getElem?, hmv]
      have hfit : mv = 0 → (mist q s).length = 0 := by
        intro h0
        subst h0
        obtain ⟨i, hi⟩ := R.calm (by omega) hmv
        rw [show mist q s = [] from calm_fits q _ i 0 hi]
        rfl
      have hJ : m_laws_FnPerceptrons_j0 (s, rr) (q, M, true) (T, true) (mist q s, true) (mist (pocket s P) s, true) ((mist q s).length == 0, true) = some (.inr ()) := by
        have hle := hkb q hqP
        have : ¬ (((mist (pocket s P) s).length : Int) > ((mist q s).length : Int)) := by omega
        simp only [m_laws_FnPerceptrons_j0, laws_FnPerceptrons_j0, den_br, den_brk, den_brc, den_go, den_get, den_ret, ln_eq, this, hgm, Option.bind_some]
        by_cases h0 : mv = 0
        · simp [h0, hfit h0]
        · simp [h0]
      have L := replay_l0 s rr (q, M, true) (T, true) g1 g2 (by simp only; omega) (by simp only; omega) rr.toNat 0 (p0 s) q ps T M 0 (p0_plane g1 g2) (by simp [p0]) hr (by simp) (by simp) (by simp) (by simp)
      have hpc : (p0 s) = (List.replicate y.length 0, 0) := by simp only [p0, hyd]
      rw [hpc] at L
      have L' : lrun (fun (u : List Int × Int × Int × Int) => den (laws_FnPerceptrons_l0 (s, rr) (q, M, true) (T, true) u.1 u.2.1 u.2.2.1 u.2.2.2)) (List.replicate y.length 0, 0, 0, 0) = _ := L
      have b1 : 0 ≤ (y.length : Int) ∧ (y.length : Int) * (8 : Nat) ≤ 140737488355328 := by omega
      rw [hlast] at t1
      simp only [hlast, den_br, den_brk, den_brc, den_go, den_call, den_ret, den_chs, bne_self_eq_false, Bool.false_eq_true, if_false, v1, v2, v3, v4, v5, hvp, Option.bind_some, Bool.not_true, ln_eq, t1, a1, a2, m_MistakesOf, m_FitsSample, hsu q hqP, hsu _ hkP, if_true, den_at, den_lp2, hJ, Sum.elim_inr, den_get, hg, den_mk, b1, and_self, m_laws_FnPerceptrons_l0, Int.toNat_natCast, L', beq_self_eq_true]

/-- FnPerceptrons, in the model -/
theorem calls_Perceptrons (code : List Int) (h : ∀ n ∈ code, (Lit.int .u8 n).wf = true) : CallOK Try.prog n_laws_FnPerceptrons [T.one (V.arr 1 (code.map fun x => [V.int .u8 x]))] [] (T.one (V.bool true)) [] := by
  refine ok_laws_FnPerceptrons code true (law_Perceptrons code fun b hb => ?_)
  have := h b hb
  have e0 : IntKind.u8.min = 0 := by decide
  have e1 : IntKind.u8.max = 255 := by decide
  simp only [Lit.wf, Bool.and_eq_true, decide_eq_true_eq, e0, e1] at this
  omega
end Go.Abs
