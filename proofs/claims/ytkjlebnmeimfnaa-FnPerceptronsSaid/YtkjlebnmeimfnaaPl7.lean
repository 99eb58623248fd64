import Derived.Test.YtkjlebnmeimfnaaPl6
namespace Go.Abs

theorem m_l2One (p : Pl) (x : List Int) : m_spec_l2One p x = some (meets p x) := by
  simp only [m_spec_l2One, s_spec_l2One, den_go, den_br, den_call, den_ret, m_l2Plane, m_l2Point, Option.bind_some, ln_eq, meets]
  rw [beq_natCast]
  cases isPlane p <;> cases isPoint x <;> simp
theorem m_l1Least (a b : Int) : m_spec_l1Least a b = some (if a < b then a else b) := by
  simp only [m_spec_l1Least, s_spec_l1Least, den_go, den_brc, den_ret]
  by_cases h : a < b <;> simp [h]

theorem d_someSample {c : Cu} {n : Nat} (h : Cur c n) (hn : n ≤ 1000000) (d most : Int) (h0 : 0 ≤ d) (h1 : d ≤ 1000) (hm0 : 0 ≤ most) : ∃ v c', m_spec_l1Cur_someSample c d most = some (v, c') ∧ Cur c' (n + 100000) ∧ v.1.length ≤ 17 := by
  obtain ⟨b, c1, e1, hb, C1⟩ := d_among h (by unfold big; omega) [4, 6, 3, 5, 2, 8, 1, 0, 12, 16] (by simp)
  simp at hb
  have hx2 : ∃ x2, m_spec_l1Least b most = some x2 ∧ 0 ≤ x2 ∧ x2 ≤ 16 := ⟨_, m_l1Least _ _, by split <;> omega, by split <;> omega⟩
  obtain ⟨x2, e2, hx20, hx21⟩ := hx2
  obtain ⟨p, c3, e3, C3, hp3⟩ := d_plane C1 (by unfold big; omega) d h0 h1
  obtain ⟨f4, c4, e4, C4⟩ := d_one C3 (by unfold big; omega) 3
  have L := lrun_steps (step := fun (u : List (List Int) × List Int × List Int × Int × Int × Int) => den (spec_l1Cur_someSample_l0 d x2 (p, c3) (f4, c4) u.1 u.2.1 u.2.2.1 u.2.2.2.1 u.2.2.2.2.1 u.2.2.2.2.2))
    (fun i u => u.1.length = i ∧ u.2.1.length = i ∧ (∀ x ∈ u.1, x.length ≤ 2000) ∧ Cur (u.2.2.1, u.2.2.2.1, u.2.2.2.2.1) (n + 3004 + 3002 * i) ∧ u.2.2.2.2.2 = (i : Int))
    (fun r => r.1.length = x2.toNat ∧ r.2.1.length = x2.toNat ∧ (∀ x ∈ r.1, x.length ≤ 2000) ∧ Cur r.2.2 (n + 3004 + 3002 * x2.toNat)) x2.toNat
    (fun i u hi ⟨g1, g2, g3, g4, g5⟩ => by
      obtain ⟨x5, c5, e5, C5, hl5⟩ := d_point g4 (by unfold big; omega) d h0 h1
      obtain ⟨v6, c6, e6, _, _, C6⟩ := d_pick C5 (by unfold big; omega) 2
      have hlt : (i : Int) < x2 := by omega
      have hi1 : w64 ((i : Int) + 1) = ((i + 1 : Nat) : Int) := w64_nat (by omega)
      have J : ∃ y, m_spec_l1Cur_someSample_j0 d x2 (p, c3) (f4, c4) u.1 u.2.1 (i : Int) (x5, c5) (v6, c6) = some y := by
        simp only [m_spec_l1Cur_someSample_j0, spec_l1Cur_someSample_j0, den_go, den_br, den_brc, den_brk, den_call, den_ret, m_l2One, Option.bind_some]
        cases f4 with
        | true => simp
        | false =>
          simp only [Bool.not_false, if_true]
          cases g : meets p x5 with
          | false => simp
          | true =>
            simp only [meets, Bool.and_eq_true, beq_iff_eq] at g
            have := (isPlane_len g.1.1).2
            simp [m_l2Side p x5 (by omega) (by omega)]
      obtain ⟨y, eJ⟩ := J
      have a1 : ∀ z : List Int, (u.1.length + [z].length) * 24 ≤ 140737488355328 := fun z => by simp; omega
      have a2 : ∀ z : Int, (u.2.1.length + [z].length) * 8 ≤ 140737488355328 := fun z => by simp; omega
      have fin : ∀ z : Int, (fun (u : List (List Int) × List Int × List Int × Int × Int × Int) => u.1.length = i + 1 ∧ u.2.1.length = i + 1 ∧ (∀ x ∈ u.1, x.length ≤ 2000) ∧ Cur (u.2.2.1, u.2.2.2.1, u.2.2.2.2.1) (n + 3004 + 3002 * (i + 1)) ∧ u.2.2.2.2.2 = ((i + 1 : Nat) : Int)) (u.1 ++ [x5], u.2.1 ++ [z], c6.1, c6.2.1, c6.2.2, ((i + 1 : Nat) : Int)) := fun z =>
        ⟨by simp [g1], by simp [g2], fun x hx => by
          rcases List.mem_append.1 hx with hx | hx
          · exact g3 x hx
          · rw [List.mem_singleton.1 hx]; exact hl5, C6.mono (by omega), rfl⟩
      refine ⟨_, ?_, fin y⟩
      simp only [spec_l1Cur_someSample_l0, den_go, den_brc, den_call, den_chs, den_app, den_ret, den_at, den_lp, g5, hlt, decide_true, if_true, e5, e6, Option.bind_some, eJ, a1, a2, hi1])
    (fun u ⟨g1, g2, g3, g4, g5⟩ => by
      refine ⟨(u.1, u.2.1, u.2.2.1, u.2.2.2.1, u.2.2.2.2.1), ?_, g1, g2, g3, g4⟩
      have : ¬ ((x2.toNat : Int) < x2) := by omega
      simp only [spec_l1Cur_someSample_l0, den_go, den_brc, den_ret, g5, this, decide_false, Bool.false_eq_true, if_false]) ([], [], c4.1, c4.2.1, c4.2.2, 0) ⟨rfl, rfl, by simp, C4.mono (by omega), rfl⟩
  obtain ⟨x11, eL, hl1, hl2, hl3, C11⟩ := L
  have J1 : ∃ x16, m_spec_l1Cur_someSample_j1 d x2 x11 = some x16 ∧ x16.1.length = x2.toNat ∧ Cur x16.2 (n + 3004 + 3002 * x2.toNat + 2) := by
    simp only [m_spec_l1Cur_someSample_j1, spec_l1Cur_someSample_j1, den_br, den_go, den_brc, den_brk, den_call, den_idx, den_ld, den_upd, den_ret]
    by_cases hd : x2 > 1
    · obtain ⟨v12, c12, e12, C12⟩ := d_one C11 (by unfold big; omega) 10
      simp only [hd, decide_true, if_true, e12, Option.bind_some]
      cases v12 with
      | false => exact ⟨_, rfl, hl1, C12⟩
      | true =>
        have hg1 : x11.1[1]? = some (x11.1[1]'(by omega)) := List.getElem?_eq_getElem (by omega)
        have hg0 : x11.1[0]? = some (x11.1[0]'(by omega)) := List.getElem?_eq_getElem (by omega)
        have ho := m_own (x11.1[1]'(by omega)) (by have := hl3 _ (List.getElem_mem (l := x11.1) (n := 1) (by omega)); omega)
        have hlt1 : (1 : Int) < (x11.1.length : Int) := by omega
        have hlt0 : (0 : Int) < (x11.1.length : Int) := by omega
        refine ⟨(List.set x11.1 0 (x11.1[1]'(by omega)), c12), ?_, by simp [hl1], C12⟩
        simp only [if_true, show (0 : Int) ≤ 1 by omega, hlt1, and_self, hg1, Option.bind_some, ho, Int.le_refl, hlt0, hg0]
    · simp only [hd, decide_false, Bool.false_eq_true, if_false]
      exact ⟨_, rfl, hl1, C11.mono (by omega)⟩
  obtain ⟨x16, eJ1, hl16, C16⟩ := J1
  obtain ⟨v17, c17, e17, v170, _, C17⟩ := d_pick C16 (by unfold big; omega) 50
  simp only [m_spec_l1Cur_someSample, s_spec_l1Cur_someSample, den_go, den_chs, den_call, e1, e2, e3, e4, Option.bind_some, den_lp, m_spec_l1Cur_someSample_l0]
  rw [eL]
  simp only [Option.bind_some, den_go, den_at, den_lp, eJ1, den_call, e17, den_brc, den_chs, den_ret, den_app, den_idx, den_upd]
  by_cases g0 : v17 = 0
  · have a1 : (x11.2.1.length + [(1 : Int)].length) * 8 ≤ 140737488355328 := by simp; omega
    exact ⟨_, _, by simp only [g0, beq_self_eq_true, if_true, a1]; rfl, C17.mono (by omega), by simp only; omega⟩
  · have g0' : (v17 == 0) = false := by simpa using g0
    by_cases g1 : v17 = 1
    · by_cases hd : x2 > 0
      · obtain ⟨v18, c18, e18, v180, v181, C18⟩ := d_pick C17 (by unfold big; omega) x2
        obtain ⟨v19, c19, e19, _, C19⟩ := d_among C18 (by unfold big; omega) [0, 2, -2, 1] (by simp)
        have hlt : v18 < (x11.2.1.length : Int) := by omega
        have hg : x11.2.1[v18.toNat]? = some (x11.2.1[v18.toNat]'(by omega)) := List.getElem?_eq_getElem (by omega)
        exact ⟨_, _, by simp only [g1, show ((1 : Int) == 0) = false from rfl, Bool.false_eq_true, if_false, beq_self_eq_true, if_true, hd, decide_true, e18, e19, Option.bind_some, v180, hlt, and_self, hg]; rfl, C19.mono (by omega), by simp only; omega⟩
      · exact ⟨_, _, by simp only [g1, show ((1 : Int) == 0) = false from rfl, Bool.false_eq_true, if_false, beq_self_eq_true, if_true, hd, decide_false]; rfl, C17.mono (by omega), by simp only; omega⟩
    · have g1' : (v17 == 1) = false := by simpa using g1
      by_cases g2 : v17 = 2
      · have L2 := lrun_steps (step := fun (u : List (List Int) × List Int) => den (spec_l1Cur_someSample_l1 d (v17, c17) u.1 u.2)) (fun i u => u.1.length = x2.toNat + i ∧ u.2.length = x2.toNat + i) (fun r => r.1.length = 17) (17 - x2.toNat)
          (fun i u hi ⟨q1, q2⟩ => by
            refine ⟨(u.1 ++ [List.replicate d.toNat 0], u.2 ++ [1]), ?_, by simp [q1]; omega, by simp [q2]; omega⟩
            have a0 : 0 ≤ d ∧ d * (8 : Nat) ≤ 140737488355328 := by omega
            have a1 : (u.1.length + [List.replicate d.toNat (0 : Int)].length) * 24 ≤ 140737488355328 := by simp; omega
            have a2 : (u.2.length + [(1 : Int)].length) * 8 ≤ 140737488355328 := by simp; omega
            have hlt : (u.1.length : Int) < 17 := by omega
            simp only [spec_l1Cur_someSample_l1, den_go, den_brc, den_chs, den_mk, den_app, den_ret, ln_eq, hlt, decide_true, if_true, a0, and_self, a1, a2])
          (fun u ⟨q1, q2⟩ => by
            refine ⟨u, ?_, by omega⟩
            have : ¬ ((u.1.length : Int) < 17) := by omega
            simp only [spec_l1Cur_someSample_l1, den_go, den_brc, den_ret, ln_eq, this, decide_false, Bool.false_eq_true, if_false]) (x16.1, x11.2.1) ⟨by simp [hl16], by simp [hl2]⟩
        obtain ⟨x21, eL2, hl21⟩ := L2
        simp only [g0', g1', Bool.false_eq_true, if_false]
        refine ⟨x21, c17, ?_, C17.mono (by omega), by omega⟩
        have g2' : (v17 == 2) = true := by simpa using g2
        simp only [g2', if_true, den_lp, m_spec_l1Cur_someSample_l1, eL2, Option.bind_some, den_go, den_ret]
      · have g2' : (v17 == 2) = false := by simpa using g2
        exact ⟨_, _, by simp only [g0', g1', g2', Bool.false_eq_true, if_false]; rfl, C17.mono (by omega), by simp only; omega⟩

theorem d_rounds3 {c : Cu} {n : Nat} (h : Cur c n) (hn : n ≤ 1000000) : ∃ v c', m_spec_l1Cur_rounds3 c = some (v, c') ∧ Cur c' (n + 4) := by
  obtain ⟨v, c1, e1, v0, v1, C1⟩ := d_pick h (by unfold big; omega) 24
  have hq : Int.tdiv v 11 = v / 11 := Int.tdiv_eq_ediv_of_nonneg v0
  have e : w64 (6 + w64 (Int.tdiv v 11)) = 6 + v / 11 := by
    rw [hq, w64_id (n := v / 11) (by omega) (by omega), w64_id (by omega) (by omega)]
  obtain ⟨u, c2, e2, _, C2⟩ := d_among C1 (by unfold big; omega) (List.drop (Int.toNat 0) (List.take (Int.toNat (6 + v / 11)) [3, 5, 2, 1, 8, 12, 0, 13])) (by
    obtain ⟨k, hk⟩ : ∃ k : Nat, (6 + v / 11).toNat = k + 1 := ⟨(6 + v / 11).toNat - 1, by omega⟩
    rw [hk]; simp)
  refine ⟨u, c2, ?_, C2⟩
  have a1 : 0 ≤ (6 + v / 11) ∧ 6 + v / 11 ≤ 8 := by omega
  simp only [m_spec_l1Cur_rounds3, s_spec_l1Cur_rounds3, den_go, den_chs, den_call, e1, Option.bind_some, den_need, den_slc, e]
  simp [a1]
  simpa using e2

theorem d_DrawRun (code : List Int) (h : ∀ b ∈ code, 0 ≤ b ∧ b < 256) : ∃ s r, m_spec_DrawRunPerceptron code = some (s, r) := by
  obtain ⟨d, c1, e1, d0, d1, C1⟩ := d_space (c := (code, 0, 0)) (n := 0) ⟨h, by simp, by simp⟩ (by unfold big; omega)
  obtain ⟨s, c2, e2, C2, _⟩ := d_someSample C1 (by omega) d 8 (by omega) (by omega) (by omega)
  obtain ⟨r, c3, e3, C3⟩ := d_rounds3 C2 (by omega)
  exact ⟨s, r, by simp [m_spec_DrawRunPerceptron, s_spec_DrawRunPerceptron, e1, e2, e3]⟩

theorem d_DrawPOC (code : List Int) (h : ∀ b ∈ code, 0 ≤ b ∧ b < 256) : ∃ y, m_spec_DrawPlaneOfCounts code = some y := by
  obtain ⟨d, c1, e1, d0, d1, C1⟩ := d_space (c := (code, 0, 0)) (n := 0) ⟨h, by simp, by simp⟩ (by unfold big; omega)
  obtain ⟨s, c2, e2, C2, hl⟩ := d_someSample C1 (by omega) d 8 (by omega) (by omega) (by omega)
  have J : ∃ y, m_spec_DrawPlaneOfCounts_j0 (s, c2) (dual s 3) = some y ∧ ∀ z, y = .inr z → Cur z 200000 := by
    obtain ⟨v4, c4, e4, C4⟩ := d_one C2 (by unfold big; omega) 2
    simp only [m_spec_DrawPlaneOfCounts_j0, spec_DrawPlaneOfCounts_j0, den_go, den_br, den_brc, den_brk, den_call, den_ret, e4, Option.bind_some]
    cases (dual s 3).2 with
    | false => exact ⟨_, rfl, fun z hz => by injection hz with hz; subst hz; exact C2.mono (by omega)⟩
    | true =>
      cases v4 with
      | true => exact ⟨_, rfl, fun z hz => by cases hz⟩
      | false => exact ⟨_, rfl, fun z hz => by injection hz with hz; subst hz; exact C4.mono (by omega)⟩
  obtain ⟨y, eJ, hJ⟩ := J
  simp only [m_spec_DrawPlaneOfCounts, s_spec_DrawPlaneOfCounts, den_go, den_chs, den_call, e1, e2, m_sDualCounts, Option.bind_some, den_at, den_lp2, eJ]
  cases y with
  | inl y => exact ⟨_, rfl⟩
  | inr x6 =>
    have C6 := hJ x6 rfl
    have L := lrun_steps (step := fun (u : List Int × Int × Int × List Int × Int) => den (spec_DrawPlaneOfCounts_l0 (s, c2) u.1 u.2.1 u.2.2.1 u.2.2.2.1 u.2.2.2.2))
      (fun i u => u.2.2.2.1.length = i ∧ Cur (u.1, u.2.1, u.2.2.1) (200000 + 2 * i) ∧ u.2.2.2.2 = (i : Int)) (fun r => r.2.2.2.length = s.1.length ∧ Cur (r.1, r.2.1, r.2.2.1) (200000 + 2 * s.1.length)) s.1.length
      (fun i u hi ⟨g1, g2, g3⟩ => by
        obtain ⟨v, c3, e3, _, _, C3⟩ := d_pick g2 (by unfold big; omega) 3
        refine ⟨(c3.1, c3.2.1, c3.2.2, u.2.2.2.1 ++ [v], ((i + 1 : Nat) : Int)), ?_, by simp [g1], C3.mono (by omega), rfl⟩
        have a1 : (u.2.2.2.1.length + [v].length) * 8 ≤ 140737488355328 := by simp; omega
        have hi1 : w64 ((i : Int) + 1) = ((i + 1 : Nat) : Int) := w64_nat (by omega)
        have hlt : (i : Int) < (s.1.length : Int) := by omega
        simp only [spec_DrawPlaneOfCounts_l0, den_go, den_brc, den_call, den_chs, den_app, den_ret, ln_eq, g3, hlt, decide_true, if_true, e3, Option.bind_some, a1, hi1])
      (fun u ⟨g1, g2, g3⟩ => by
        refine ⟨(u.1, u.2.1, u.2.2.1, u.2.2.2.1), ?_, g1, g2⟩
        simp [spec_DrawPlaneOfCounts_l0, ln_eq, g3]) (x6.1, x6.2.1, x6.2.2, [], 0) ⟨rfl, C6.mono (by omega), rfl⟩
    obtain ⟨x8, eL, hl8, C8⟩ := L
    simp only [Sum.elim_inr, den_go, den_lp, m_spec_DrawPlaneOfCounts_l0]
    rw [eL]
    simp only [Option.bind_some, den_go, den_br, den_brk, den_brc, den_call, den_chs, den_idx, den_upd, den_ret, ln_eq]
    by_cases g : (x8.2.2.2.length : Int) > 0
    · obtain ⟨v9, c9, e9, C9⟩ := d_one C8 (by unfold big; omega) 16
      obtain ⟨v10, c10, e10, _, C10⟩ := d_among C9 (by unfold big; omega) [-1, 999, 1000] (by simp)
      have hg : x8.2.2.2[0]? = some (x8.2.2.2[0]'(by omega)) := List.getElem?_eq_getElem (by omega)
      simp only [g, decide_true, if_true, e9, e10, Option.bind_some, Int.le_refl, true_and, show (0 : Int) < (x8.2.2.2.length : Int) from g, hg]
      cases v9 <;> exact ⟨_, rfl⟩
    · simp only [g, decide_false, Bool.false_eq_true, if_false]
      exact ⟨_, rfl⟩

theorem d_vCut (code : List Int) (h : ∀ b ∈ code, 0 ≤ b ∧ b < 256) (hl : code.length ≤ 65536) (n : Int) (h0 : 0 ≤ n) (h1 : n < 256) : ∃ c, m_laws_vCut code n = some c ∧ (∀ b ∈ c, 0 ≤ b ∧ b < 256) ∧ c.length ≤ code.length + 1 := by
  have hw : ∀ k : Int, 0 ≤ w8 k ∧ w8 k < 256 := by
    intro k
    have e : w8 k = k % 256 := by
      show (if (false && decide (k % 256 ≥ 128)) = true then k % 256 - 256 else k % 256) = _
      simp
    rw [e]; omega
  simp only [m_laws_vCut, s_laws_vCut, den_go, den_chs, den_brc, den_slc, den_app, den_ret, ln_eq]
  by_cases g : n > (code.length : Int)
  · have a1 : (0 : Int) ≤ code.length ∧ (code.length : Int) ≤ code.length ∧ (code.length : Int) ≤ code.length := by omega
    refine ⟨[w8 code.length], ?_, fun b hb => by rw [List.mem_singleton.1 hb]; exact hw _, by simp⟩
    simp only [g, decide_true, if_true, a1, and_self, Int.toNat_natCast, List.take_length, List.drop_length, List.length_nil, List.nil_append]
    simp
  · have a1 : 0 ≤ n ∧ n ≤ (code.length : Int) ∧ (code.length : Int) ≤ code.length := by omega
    refine ⟨code.drop n.toNat ++ [w8 n], ?_, fun b hb => ?_, by simp⟩
    · have a2 : ((code.drop n.toNat).length) * 1 ≤ 140737488355328 := by rw [List.length_drop]; omega
      have a3 : ((code.drop n.toNat).length + 1) * 1 ≤ 140737488355328 := by rw [List.length_drop]; omega
      simp only [g, decide_false, Bool.false_eq_true, if_false, a1, and_self, if_true, Int.toNat_natCast, List.take_length, List.length_nil, Nat.zero_add, a2, List.length_singleton, a3]
    · rcases List.mem_append.1 hb with hb | hb
      · exact h b (List.mem_of_mem_drop hb)
      · rw [List.mem_singleton.1 hb]; exact hw _
end Go.Abs
