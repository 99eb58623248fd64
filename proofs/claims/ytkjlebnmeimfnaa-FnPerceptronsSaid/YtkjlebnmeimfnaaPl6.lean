import Derived.Test.YtkjlebnmeimfnaaPl5
namespace Go.Abs

/-! draws: that they come to something -/
abbrev Cu := List Int × Int × Int
def Cur (c : Cu) (n : Nat) : Prop := (∀ b ∈ c.1, 0 ≤ b ∧ b < 256) ∧ 0 ≤ c.2.1 ∧ c.2.1 ≤ n
theorem Cur.mono {c : Cu} {n m : Nat} (h : Cur c n) (hm : n ≤ m) : Cur c m := ⟨h.1, h.2.1, by have := h.2.2; omega⟩

def big : Nat := 1000000000

theorem wu64_small {n : Int} (h0 : 0 ≤ n) (h1 : n < 18446744073709551616) : IntKind.u64.wrap n = n := by
  have e : IntKind.u64.wrap n = n % 18446744073709551616 := by
    show (if (false && decide (n % 18446744073709551616 ≥ 9223372036854775808)) = true then n % 18446744073709551616 - 18446744073709551616 else n % 18446744073709551616) = _
    simp
  rw [e]; omega

theorem iAnd255 (a : Int) : 0 ≤ iAnd .u64 a 255 ∧ iAnd .u64 a 255 < 256 := by
  unfold iAnd
  have h : (BitVec.ofInt IntKind.u64.bits a &&& BitVec.ofInt IntKind.u64.bits 255).toNat ≤ 255 := by
    rw [BitVec.toNat_and]
    exact Nat.le_trans Nat.and_le_right (by decide)
  rw [wu64_small (by omega) (by omega)]
  omega

theorem d_next {c : Cu} {n : Nat} (h : Cur c n) (hn : n ≤ 4 * big) : ∃ v c', m_spec_l1Cur_next c = some (v, c') ∧ 0 ≤ v ∧ v < 256 ∧ Cur c' (n + 1) := by
  obtain ⟨h1, h2, h3⟩ := h
  unfold big at hn
  have hw : w64 (c.2.1 + 1) = c.2.1 + 1 := w64_id (by omega) (by omega)
  have j0 : ∃ b, m_spec_l1Cur_next_j0 c = some b ∧ 0 ≤ b ∧ b < 256 := by
    simp only [m_spec_l1Cur_next_j0, spec_l1Cur_next_j0, den_go, den_brc, den_get, den_ret, ln_eq]
    by_cases hl : c.2.1 < (c.1.length : Int)
    · obtain ⟨x, hx, hx'⟩ := getI_ok h2 hl
      have := h1 x (List.mem_of_getElem? hx')
      exact ⟨x, by simp [hl, hx, w64_id (n := x) (by omega) (by omega)], this.1, this.2⟩
    · exact ⟨0, by simp [hl], by omega, by omega⟩
  obtain ⟨b, hb, hb0, hb1⟩ := j0
  simp only [m_spec_l1Cur_next, s_spec_l1Cur_next, den_go, den_at, den_lp, hb, Option.bind_some, den_brc, den_ret, den_need, ln_eq, hw]
  by_cases hl : c.2.1 + 1 ≤ (c.1.length : Int)
  · exact ⟨b, (c.1, c.2.1 + 1, wu64 (wu64 (wu64 (c.2.2 * 6364136223846793005) + wu64 b) + 462197)), by simp only [hl, decide_true, if_true], hb0, hb1, h1, by simp only; omega, by simp only; omega⟩
  · have g := iAnd255 (iShr IntKind.u64 (wu64 (wu64 (wu64 (c.2.2 * 6364136223846793005) + wu64 b) + 462197)) 40)
    refine ⟨w64 (iAnd .u64 (iShr IntKind.u64 (wu64 (wu64 (wu64 (c.2.2 * 6364136223846793005) + wu64 b) + 462197)) 40) 255), (c.1, c.2.1 + 1, wu64 (wu64 (wu64 (c.2.2 * 6364136223846793005) + wu64 b) + 462197)), by simp [hl], ?_, ?_, h1, by simp only; omega, by simp only; omega⟩
    · rw [w64_id (by omega) (by omega)]; exact g.1
    · rw [w64_id (by omega) (by omega)]; exact g.2

theorem d_pick {c : Cu} {n : Nat} (h : Cur c n) (hn : n ≤ 2 * big) (k : Int) : ∃ v c', m_spec_l1Cur_pick c k = some (v, c') ∧ 0 ≤ v ∧ (v < k ∨ v = 0) ∧ Cur c' (n + 2) := by
  unfold big at hn
  simp only [m_spec_l1Cur_pick, s_spec_l1Cur_pick, den_go, den_brc, den_call, den_ret, den_need]
  by_cases hk : k ≤ 1
  · exact ⟨0, c, by simp [hk], by omega, .inr rfl, h.mono (by omega)⟩
  · obtain ⟨v, c1, e1, v0, v1, C1⟩ := d_next h (by unfold big; omega)
    obtain ⟨u, c2, e2, u0, u1, C2⟩ := d_next C1 (by unfold big; omega)
    have hk0 : k ≠ 0 := by omega
    by_cases hk2 : k > 200
    · have e : w64 (w64 (v * 256) + u) = v * 256 + u := by rw [w64_id (n := v * 256) (by omega) (by omega), w64_id (by omega) (by omega)]
      refine ⟨Int.tmod (v * 256 + u) k, c2, by simp [hk, e1, hk2, e2, hk0, e], Int.tmod_nonneg _ (by omega), .inl (Int.tmod_lt_of_pos _ (by omega)), C2⟩
    · refine ⟨Int.tmod v k, c1, by simp [hk, e1, hk2, hk0], Int.tmod_nonneg _ (by omega), .inl (Int.tmod_lt_of_pos _ (by omega)), C1.mono (by omega)⟩

theorem d_one {c : Cu} {n : Nat} (h : Cur c n) (hn : n ≤ 2 * big) (k : Int) : ∃ v c', m_spec_l1Cur_one c k = some (v, c') ∧ Cur c' (n + 2) := by
  obtain ⟨v, c1, e1, _, _, C1⟩ := d_pick h hn k
  exact ⟨v == 0, c1, by simp [m_spec_l1Cur_one, s_spec_l1Cur_one, e1], C1⟩

theorem d_among {c : Cu} {n : Nat} (h : Cur c n) (hn : n ≤ 2 * big) (l : List Int) (hl : l ≠ []) : ∃ v c', m_spec_l1Cur_among c l = some (v, c') ∧ v ∈ l ∧ Cur c' (n + 2) := by
  obtain ⟨v, c1, e1, v0, v1, C1⟩ := d_pick h hn (l.length : Int)
  have hp : 0 < l.length := by cases l <;> simp_all
  obtain ⟨x, hx, hx'⟩ := getI_ok (xs := l) v0 (by omega)
  exact ⟨x, c1, by simp [m_spec_l1Cur_among, s_spec_l1Cur_among, ln_eq, e1, hx], List.mem_of_getElem? hx', C1⟩

theorem d_space {c : Cu} {n : Nat} (h : Cur c n) (hn : n ≤ 2 * big) : ∃ v c', m_spec_l1Cur_space c = some (v, c') ∧ 1 ≤ v ∧ v ≤ 4 ∧ Cur c' (n + 2) := by
  obtain ⟨v, c1, e1, hv, C1⟩ := d_among h hn [2, 2, 3, 1, 2, 4] (by simp)
  simp at hv
  exact ⟨v, c1, by simp [m_spec_l1Cur_space, s_spec_l1Cur_space, e1], by omega, by omega, C1⟩

/-- a loop whose rounds all come to something -/
theorem lrun_steps {τ ρ : Type} {step : τ → Option (τ ⊕ ρ)} (I : Nat → τ → Prop) (R : ρ → Prop) (n : Nat)
    (hs : ∀ i s, i < n → I i s → ∃ s', step s = some (.inl s') ∧ I (i + 1) s') (he : ∀ s, I n s → ∃ d, step s = some (.inr d) ∧ R d) (s : τ) (h0 : I 0 s) : ∃ d, lrun step s = some d ∧ R d := by
  have key : ∀ (k i : Nat) (s : τ), i + k = n → I i s → ∃ d, lrun step s = some d ∧ R d := by
    intro k
    induction k with
    | zero =>
      intro i s hi hI
      have : i = n := by omega
      subst this
      obtain ⟨d, hd, hr⟩ := he s hI
      exact ⟨d, lrun_done hd, hr⟩
    | succ k ih =>
      intro i s hi hI
      obtain ⟨s', h1, h2⟩ := hs i s (by omega) hI
      obtain ⟨d, hd, hr⟩ := ih (i + 1) s' (by omega) h2
      exact ⟨d, by rw [lrun_next h1]; exact hd, hr⟩
  exact key n 0 s (by omega) h0

theorem d_point {c : Cu} {n : Nat} (h : Cur c n) (hn : n ≤ big) (d : Int) (h0 : 0 ≤ d) (h1 : d ≤ 1000) : ∃ v c', m_spec_l1Cur_point c d = some (v, c') ∧ Cur c' (n + 3000) ∧ v.length ≤ 2000 := by
  unfold big at hn
  obtain ⟨b, c1, e1, hb, C1⟩ := d_among h (by unfold big; omega) [2, 3, 5, 9] (by simp)
  have L := lrun_steps (step := fun (u : List Int × List Int × Int × Int × Int) => den (spec_l1Cur_point_l0 d (b, c1) u.1 u.2.1 u.2.2.1 u.2.2.2.1 u.2.2.2.2))
    (fun i u => u.1.length = i ∧ Cur (u.2.1, u.2.2.1, u.2.2.2.1) (n + 2 + 2 * i) ∧ u.2.2.2.2 = (i : Int)) (fun r => r.1.length = d.toNat ∧ Cur (r.2.1, r.2.2.1, r.2.2.2) (n + 2 + 2 * d.toNat)) d.toNat
    (fun i u hi ⟨g1, g2, g3⟩ => by
      obtain ⟨v, c2, e2, _, _, C2⟩ := d_pick g2 (by unfold big; omega) (w64 (w64 (2 * b) + 1))
      refine ⟨(u.1 ++ [w64 (v - b)], c2.1, c2.2.1, c2.2.2, ((i + 1 : Nat) : Int)), ?_, by simp [g1], C2, rfl⟩
      have a1 : (u.1.length + [w64 (v - b)].length) * 8 ≤ 140737488355328 := by simp; omega
      have hlt : (i : Int) < d := by omega
      have hi1 : w64 ((i : Int) + 1) = ((i + 1 : Nat) : Int) := w64_nat (by omega)
      simp only [spec_l1Cur_point_l0, den_go, den_brc, den_call, den_chs, den_app, den_ret, g3, hlt, decide_true, if_true, e2, Option.bind_some, a1, hi1])
    (fun u ⟨g1, g2, g3⟩ => by
      refine ⟨(u.1, u.2.1, u.2.2.1, u.2.2.2.1), ?_, g1, g2⟩
      have : ¬ ((d.toNat : Int) < d) := by omega
      simp only [spec_l1Cur_point_l0, den_go, den_brc, den_ret, g3, this, decide_false, Bool.false_eq_true, if_false]) ([], c1.1, c1.2.1, c1.2.2, 0) ⟨rfl, C1, rfl⟩
  obtain ⟨x3, eL, hl3, C3⟩ := L
  have J : ∃ x8, m_spec_l1Cur_point_j0 d x3 = some x8 ∧ x8.1.length = d.toNat ∧ Cur x8.2 (n + 2 + 2 * d.toNat + 6) := by
    simp only [m_spec_l1Cur_point_j0, spec_l1Cur_point_j0, den_br, den_go, den_brc, den_brk, den_call, den_chs, den_idx, den_upd, den_ret]
    by_cases hd : d > 0
    · obtain ⟨v4, c4, e4, C4⟩ := d_one C3 (by unfold big; omega) 60
      simp only [hd, decide_true, if_true, e4, Option.bind_some]
      cases v4 with
      | false => exact ⟨_, rfl, hl3, C4.mono (by omega)⟩
      | true =>
        obtain ⟨v5, c5, e5, v50, v51, C5⟩ := d_pick C4 (by unfold big; omega) d
        obtain ⟨v6, c6, e6, _, C6⟩ := d_among C5 (by unfold big; omega) [10, -10, 9, -9, 4611686018427387904] (by simp)
        have hlt : v5 < (x3.1.length : Int) := by omega
        have hg : x3.1[v5.toNat]? = some (x3.1[v5.toNat]'(by omega)) := List.getElem?_eq_getElem (by omega)
        refine ⟨(List.set x3.1 v5.toNat v6, c6), ?_, by simp [hl3], C6.mono (by omega)⟩
        simp only [if_true, e5, e6, Option.bind_some, v50, hlt, and_self, hg]
    · simp only [hd, decide_false, Bool.false_eq_true, if_false]
      exact ⟨_, rfl, hl3, C3.mono (by omega)⟩
  obtain ⟨x8, eJ, hl8, C8⟩ := J
  obtain ⟨v9, c9, e9, C9⟩ := d_one C8 (by unfold big; omega) 80
  have hst : m_spec_l1Cur_point c d = if v9 then some (x8.1 ++ [0], c9) else some (x8.1, c9) := by
    have a1 : (x8.1.length + [(0 : Int)].length) * 8 ≤ 140737488355328 := by simp; omega
    simp only [m_spec_l1Cur_point, s_spec_l1Cur_point, den_go, den_chs, den_call, e1, Option.bind_some, den_lp, m_spec_l1Cur_point_l0]
    rw [eL]
    simp only [Option.bind_some, den_go, den_at, den_lp, eJ, den_call, e9, den_brc, den_chs, den_app, a1, if_true, den_ret]
  cases v9 with
  | true => exact ⟨_, _, hst, C9.mono (by omega), by simp; omega⟩
  | false => exact ⟨_, _, hst, C9.mono (by omega), by omega⟩

theorem d_plane {c : Cu} {n : Nat} (h : Cur c n) (hn : n ≤ big) (d : Int) (h0 : 0 ≤ d) (h1 : d ≤ 1000) : ∃ v c', m_spec_l1Cur_plane c d = some (v, c') ∧ Cur c' (n + 3000) ∧ v.1.length ≤ 2000 := by
  unfold big at hn
  obtain ⟨b, c1, e1, hb, C1⟩ := d_among h (by unfold big; omega) [1, 3, 5, 20] (by simp)
  have L := lrun_steps (step := fun (u : List Int × List Int × Int × Int × Int) => den (spec_l1Cur_plane_l0 d (b, c1) u.1 u.2.1 u.2.2.1 u.2.2.2.1 u.2.2.2.2))
    (fun i u => u.1.length = i ∧ Cur (u.2.1, u.2.2.1, u.2.2.2.1) (n + 2 + 2 * i) ∧ u.2.2.2.2 = (i : Int)) (fun r => r.1.length = d.toNat ∧ Cur (r.2.1, r.2.2.1, r.2.2.2) (n + 2 + 2 * d.toNat)) d.toNat
    (fun i u hi ⟨g1, g2, g3⟩ => by
      obtain ⟨v, c2, e2, _, _, C2⟩ := d_pick g2 (by unfold big; omega) (w64 (w64 (2 * b) + 1))
      refine ⟨(u.1 ++ [w64 (v - b)], c2.1, c2.2.1, c2.2.2, ((i + 1 : Nat) : Int)), ?_, by simp [g1], C2, rfl⟩
      have a1 : (u.1.length + [w64 (v - b)].length) * 8 ≤ 140737488355328 := by simp; omega
      have hlt : (i : Int) < d := by omega
      have hi1 : w64 ((i : Int) + 1) = ((i + 1 : Nat) : Int) := w64_nat (by omega)
      simp only [spec_l1Cur_plane_l0, den_go, den_brc, den_call, den_chs, den_app, den_ret, g3, hlt, decide_true, if_true, e2, Option.bind_some, a1, hi1])
    (fun u ⟨g1, g2, g3⟩ => by
      refine ⟨(u.1, u.2.1, u.2.2.1, u.2.2.2.1), ?_, g1, g2⟩
      have : ¬ ((d.toNat : Int) < d) := by omega
      simp only [spec_l1Cur_plane_l0, den_go, den_brc, den_ret, g3, this, decide_false, Bool.false_eq_true, if_false]) ([], c1.1, c1.2.1, c1.2.2, 0) ⟨rfl, C1, rfl⟩
  obtain ⟨x3, eL, hl3, C3⟩ := L
  obtain ⟨v4, c4, e4, v40, _, C4⟩ := d_pick C3 (by unfold big; omega) (w64 (w64 (2 * b) + 3))
  obtain ⟨v5, c5, e5, v50, _, C5⟩ := d_pick C4 (by unfold big; omega) 60
  simp only [m_spec_l1Cur_plane, s_spec_l1Cur_plane, den_go, den_chs, den_call, e1, Option.bind_some, den_lp, m_spec_l1Cur_plane_l0]
  rw [eL]
  simp only [Option.bind_some, den_go, den_call, e4, e5, den_brc, den_chs, den_ret, den_app, den_idx, den_upd]
  by_cases g0 : v5 = 0
  · obtain ⟨v6, c6, e6, _, C6⟩ := d_among C5 (by unfold big; omega) [99, -99, 100, -100, 4611686018427387904] (by simp)
    exact ⟨_, _, by simp only [g0, beq_self_eq_true, if_true, e6, Option.bind_some]; rfl, C6.mono (by omega), by simp only; omega⟩
  · have g0' : (v5 == 0) = false := by simpa using g0
    by_cases g1 : v5 = 1
    · by_cases hd : d > 0
      · obtain ⟨v7, c7, e7, v70, v71, C7⟩ := d_pick C5 (by unfold big; omega) d
        obtain ⟨v8, c8, e8, _, C8⟩ := d_among C7 (by unfold big; omega) [99, -99, 100, -100] (by simp)
        have hlt : v7 < (x3.1.length : Int) := by omega
        have hg : x3.1[v7.toNat]? = some (x3.1[v7.toNat]'(by omega)) := List.getElem?_eq_getElem (by omega)
        refine ⟨_, _, by simp only [g1, show ((1 : Int) == 0) = false from rfl, Bool.false_eq_true, if_false, beq_self_eq_true, if_true, hd, decide_true, e7, e8, Option.bind_some, v70, hlt, and_self, hg]; rfl, C8.mono (by omega), by simp; omega⟩
      · exact ⟨_, _, by simp only [g1, show ((1 : Int) == 0) = false from rfl, Bool.false_eq_true, if_false, beq_self_eq_true, if_true, hd, decide_false]; rfl, C5.mono (by omega), by simp only; omega⟩
    · have g1' : (v5 == 1) = false := by simpa using g1
      by_cases g2 : v5 = 2
      · have a1 : (x3.1.length + [(1 : Int)].length) * 8 ≤ 140737488355328 := by simp; omega
        exact ⟨_, _, by simp only [g2, show ((2 : Int) == 0) = false from rfl, show ((2 : Int) == 1) = false from rfl, Bool.false_eq_true, if_false, beq_self_eq_true, if_true, a1]; rfl, C5.mono (by omega), by simp; omega⟩
      · have g2' : (v5 == 2) = false := by simpa using g2
        exact ⟨_, _, by simp only [g0', g1', g2', Bool.false_eq_true, if_false]; rfl, C5.mono (by omega), by simp only; omega⟩
end Go.Abs
