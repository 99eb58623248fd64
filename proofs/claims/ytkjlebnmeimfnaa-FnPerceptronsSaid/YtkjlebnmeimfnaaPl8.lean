import Derived.Test.YtkjlebnmeimfnaaPl7
namespace Go.Abs

/-! the plane of counts -/
abbrev Zc := (List Int × Int) × Int
def pcStep (p : Pl) (z : Zc) : Pl := (List.zipWith (fun w m => w64 (w + w64 (w64 (z.1.2 * z.2) * m))) p.1 z.1.1, w64 (p.2 - w64 (z.1.2 * z.2)))
def pc (s : Smp) (counts : List Int) : Pl := ((s.1.zip s.2).zip counts).foldl pcStep (p0 s)
def planeOf (s : Smp) (counts : List Int) : Pl × Bool :=
  if isSample s && !(s.1.length == 0) && counts.length == s.1.length && allIn counts 0 999 && isPlane (pc s counts) then (pc s counts, true) else (([], 0), false)

theorem pcStep_len {p : Pl} {z : Zc} (h : p.1.length = z.1.1.length) : (pcStep p z).1.length = z.1.1.length := by simp [pcStep, h]

theorem poc_l1 (s : Smp) (counts : List Int) (p1 t : Int) (x : List Int) (l n : Int) (o : List Int) (h : o.length = x.length) (hs : x.length ≤ 1000) :
    lrun (fun (u : List Int × Int) => den (impl_PlaneOfCounts_l1 s counts p1 t x l n u.1 u.2)) (o, 0) = some (List.zipWith (fun w m => w64 (w + w64 (w64 (l * n) * m))) o x) := by
  have L := lrun_fwd (xs := x) (step := fun (u : List Int × Int) => den (impl_PlaneOfCounts_l1 s counts p1 t x l n u.1 u.2)) (fun i o => (o, (i : Int))) (fun i o m => .inl (o.set i ((fun w m => w64 (w + w64 (w64 (l * n) * m))) (o.getD i 0) m))) id (fun _ o => o.length = x.length)
    (fun i o m hI hx => by
      have hi := (List.getElem?_eq_some_iff.1 hx).1
      obtain ⟨w, hw⟩ : ∃ w, o[i]? = some w := ⟨o[i], List.getElem?_eq_getElem (by omega)⟩
      refine ⟨?_, fun s' h => by injection h with h; subst h; simpa using hI⟩
      have hi1 : w64 ((i : Int) + 1) = ((i + 1 : Nat) : Int) := w64_nat (by omega)
      simp only [impl_PlaneOfCounts_l1, den_go, den_brc, den_get, den_idx, den_ld, den_upd, den_ret, ln_eq, getI_nat, hx, Option.bind_some, Int.toNat_natCast, hw, hi1]
      simp only [List.getD_eq_getElem?_getD, hw, Option.getD_some]
      simp [hi, hI])
    (fun o hI => by simp [impl_PlaneOfCounts_l1, ln_eq]) o h
  have e : lrun (fun (u : List Int × Int) => den (impl_PlaneOfCounts_l1 s counts p1 t x l n u.1 u.2)) (o, 0) = _ := L
  have e2 := fwd_set (fun w m => w64 (w + w64 (w64 (l * n) * m))) x o [] h
  simp only [List.length_nil, List.nil_append] at e2
  rw [e, e2]
theorem spoc_l1 (s : Smp) (counts : List Int) (b : Int) (i : Nat) (x : List Int) (l n : Int) (hx : s.1[i]? = some x) (hl : s.2[i]? = some l) (hn : counts[i]? = some n) (o : List Int) (h : o.length = x.length) (hs : x.length ≤ 1000) :
    lrun (fun (u : List Int × Int) => den (spec_PlaneOfCounts_l1 s counts b (i : Int) u.1 u.2)) (o, 0) = some (List.zipWith (fun w m => w64 (w + w64 (w64 (l * n) * m))) o x) := by
  have L := lrun_fwd (xs := x) (step := fun (u : List Int × Int) => den (spec_PlaneOfCounts_l1 s counts b (i : Int) u.1 u.2)) (fun i o => (o, (i : Int))) (fun i o m => .inl (o.set i ((fun w m => w64 (w + w64 (w64 (l * n) * m))) (o.getD i 0) m))) id (fun _ o => o.length = x.length)
    (fun k o m hI hk => by
      have hi := (List.getElem?_eq_some_iff.1 hk).1
      obtain ⟨w, hw⟩ : ∃ w, o[k]? = some w := ⟨o[k], List.getElem?_eq_getElem (by omega)⟩
      refine ⟨?_, fun s' h => by injection h with h; subst h; simpa using hI⟩
      have hi1 : w64 ((k : Int) + 1) = ((k + 1 : Nat) : Int) := w64_nat (by omega)
      simp only [spec_PlaneOfCounts_l1, den_go, den_brc, den_get, den_idx, den_ld, den_upd, den_ret, ln_eq, getI_nat, hx, hl, hn, hk, Option.bind_some, Int.toNat_natCast, hw, hi1]
      simp only [List.getD_eq_getElem?_getD, hw, Option.getD_some, Int.mul_comm n l]
      simp [hi, hI])
    (fun o hI => by simp [spec_PlaneOfCounts_l1, ln_eq, hI]) o h
  have e : lrun (fun (u : List Int × Int) => den (spec_PlaneOfCounts_l1 s counts b (i : Int) u.1 u.2)) (o, 0) = _ := L
  have e2 := fwd_set (fun w m => w64 (w + w64 (w64 (l * n) * m))) x o [] h
  simp only [List.length_nil, List.nil_append] at e2
  rw [e, e2]

theorem poc_l0 (s : Smp) (counts : List Int) {d : Nat} (H : Runs s d) (hc : counts.length = s.1.length) : ∀ (r : List Zc) (i : Nat) (p : Pl), ((s.1.zip s.2).zip counts).drop i = r → i ≤ s.1.length → p.1.length = d →
    lrun (fun (u : Int × List Int × Int) => den (impl_PlaneOfCounts_l0 s counts u.1 u.2.1 u.2.2)) (p.2, p.1, (i : Int)) = some ((r.foldl pcStep p).2, (r.foldl pcStep p).1)
  | [], i, p, hr, hi, hp => by
    have hlen : ((s.1.zip s.2).zip counts).length = s.1.length := by rw [List.length_zip, zip_len H, hc]; simp
    have := drop_nil hr (by omega)
    rw [hlen] at this
    subst this
    refine (lrun_done (d := (p.2, p.1)) ?_).trans rfl
    simp [impl_PlaneOfCounts_l0, ln_eq]
  | z :: r, i, p, hr, hi, hp => by
    obtain ⟨hz, hr', hlt⟩ := drop_cons hr
    obtain ⟨⟨x, l⟩, n⟩ := z
    obtain ⟨hz, hn⟩ := List.getElem?_zip_eq_some.1 hz
    obtain ⟨hx, hl⟩ := List.getElem?_zip_eq_some.1 hz
    have hi' := (List.getElem?_eq_some_iff.1 hx).1
    have hxd := H.2.2.2 x (List.mem_of_getElem? hx)
    have hd := H.2.2.1
    have h16 := H.2.1
    have hi1 : w64 ((i : Int) + 1) = ((i + 1 : Nat) : Int) := w64_nat (by omega)
    have e1 := poc_l1 s counts p.2 (i : Int) x l n p.1 (by omega) (by omega)
    have st : den (impl_PlaneOfCounts_l0 s counts p.2 p.1 (i : Int)) = some (.inl ((pcStep p ((x, l), n)).2, (pcStep p ((x, l), n)).1, ((i + 1 : Nat) : Int))) := by
      simp only [impl_PlaneOfCounts_l0, den_go, den_brc, den_get, den_lp, m_impl_PlaneOfCounts_l1, den_ret, ln_eq, getI_nat, hx, hl, hn, Option.bind_some, e1, hi1]
      simp [hi', pcStep]
    rw [lrun_next st, poc_l0 s counts H hc r (i + 1) (pcStep p ((x, l), n)) hr' (by omega) ((pcStep_len (hp.trans hxd.symm)).trans hxd)]
    rfl

theorem spoc_l0 (s : Smp) (counts : List Int) {d : Nat} (H : Runs s d) (hc : counts.length = s.1.length) : ∀ (r : List Zc) (i : Nat) (p : Pl), ((s.1.zip s.2).zip counts).drop i = r → i ≤ s.1.length → p.1.length = d →
    lrun (fun (u : Int × List Int × Int) => den (spec_PlaneOfCounts_l0 s counts u.1 u.2.1 u.2.2)) (p.2, p.1, (i : Int)) = some (if allIn (r.map (·.2)) 0 999 then .inr ((r.foldl pcStep p).2, (r.foldl pcStep p).1) else .inl ())
  | [], i, p, hr, hi, hp => by
    have hlen : ((s.1.zip s.2).zip counts).length = s.1.length := by rw [List.length_zip, zip_len H, hc]; simp
    have := drop_nil hr (by omega)
    rw [hlen] at this
    subst this
    refine (lrun_done (d := .inr (p.2, p.1)) ?_).trans rfl
    simp [spec_PlaneOfCounts_l0, ln_eq, hc]
  | z :: r, i, p, hr, hi, hp => by
    obtain ⟨hz, hr', hlt⟩ := drop_cons hr
    obtain ⟨⟨x, l⟩, n⟩ := z
    obtain ⟨hz, hn⟩ := List.getElem?_zip_eq_some.1 hz
    obtain ⟨hx, hl⟩ := List.getElem?_zip_eq_some.1 hz
    have hi' := (List.getElem?_eq_some_iff.1 hx).1
    have hxd := H.2.2.2 x (List.mem_of_getElem? hx)
    have hd := H.2.2.1
    have h16 := H.2.1
    have hi1 : w64 ((i : Int) + 1) = ((i + 1 : Nat) : Int) := w64_nat (by omega)
    have e1 := spoc_l1 s counts p.2 i x l n hx hl hn p.1 (by omega) (by omega)
    have st : den (spec_PlaneOfCounts_l0 s counts p.2 p.1 (i : Int)) = some (if within n 0 999 then .inl ((pcStep p ((x, l), n)).2, (pcStep p ((x, l), n)).1, ((i + 1 : Nat) : Int)) else .inr (.inl ())) := by
      simp only [spec_PlaneOfCounts_l0, den_go, den_brc, den_get, den_call, den_chs, den_lp, m_spec_PlaneOfCounts_l1, den_ret, ln_eq, getI_nat, hx, hl, hn, Option.bind_some, e1, hi1, m_l1In]
      have : (i : Int) < (counts.length : Int) := by omega
      cases within n 0 999 <;> simp [this, pcStep, Int.mul_comm n l]
    simp only [List.map_cons, allIn, List.all_cons]
    cases hw : within n 0 999 with
    | false =>
      rw [hw] at st
      rw [lrun_done st]
      rfl
    | true =>
      rw [hw] at st
      simp only [if_true] at st
      rw [lrun_next st, spoc_l0 s counts H hc r (i + 1) (pcStep p ((x, l), n)) hr' (by omega) ((pcStep_len (hp.trans hxd.symm)).trans hxd)]
      rfl

theorem foldl_pc_len {d : Nat} : ∀ (r : List Zc) (p : Pl), (∀ z ∈ r, z.1.1.length = d) → p.1.length = d → (r.foldl pcStep p).1.length = d
  | [], p, _, hp => hp
  | z :: r, p, h, hp => by
    have hz := h z (List.mem_cons_self ..)
    exact foldl_pc_len r (pcStep p z) (fun z hz => h z (List.mem_cons_of_mem _ hz)) ((pcStep_len (hp.trans hz.symm)).trans hz)

theorem m_POC (s : Smp) (counts : List Int) : m_impl_PlaneOfCounts s counts = some (planeOf s counts) := by
  simp only [m_impl_PlaneOfCounts, s_impl_PlaneOfCounts, den_go, den_call, m_IsSample, Option.bind_some, den_br, den_brk, den_brc, den_chs, den_ret, ln_eq, planeOf, beq_natCast0]
  cases h1 : isSample s with
  | false => simp
  | true =>
    by_cases h2 : s.1 = []
    · simp [h2]
    · have h2n : (s.1.length == 0) = false := by
        rw [beq_eq_false_iff_ne]
        intro h
        exact h2 (List.eq_nil_of_length_eq_zero h)
      have H := runs_of h1 h2
      by_cases h3 : counts.length = s.1.length
      · have h16 := H.2.1
        obtain ⟨y, r, hy⟩ : ∃ y r, s.1 = y :: r := by
          cases hs : s.1 with
          | nil => exact absurd hs h2
          | cons y r => exact ⟨y, r, rfl⟩
        have hyd : s.1.headD [] = y := by rw [hy]; rfl
        have hy4 : y.length ≤ 4 := by have := H.2.2.1; rw [hyd] at this; exact this
        have hg : getI s.1 0 = some y := by rw [getI_zero, hy]; rfl
        have L := poc_l0 s counts H h3 ((s.1.zip s.2).zip counts) 0 (p0 s) rfl (Nat.zero_le _) (by simp [p0])
        have hpc : (p0 s) = (List.replicate y.length 0, 0) := by simp only [p0, hyd]
        have L' : lrun (fun (u : Int × List Int × Int) => den (impl_PlaneOfCounts_l0 s counts u.1 u.2.1 u.2.2)) (0, List.replicate y.length 0, 0) = some ((pc s counts).2, (pc s counts).1) := by
          rw [hpc] at L
          rw [pc, hpc]
          exact L
        have a1 : 0 ≤ (y.length : Int) ∧ (y.length : Int) * (8 : Nat) ≤ 140737488355328 := by omega
        simp only [h2n, Bool.not_true, Bool.false_eq_true, if_false, h3, bne_self_eq_false, m_allWithin counts 0 999 (by omega), Option.bind_some, beq_self_eq_true, Bool.not_false, Bool.and_self, Bool.true_and]
        cases h4 : allIn counts 0 999 with
        | false => simp
        | true =>
          simp only [Bool.not_true, Bool.false_eq_true, if_false, den_get, hg, Option.bind_some, den_mk, ln_eq, a1, and_self, if_true, den_lp, m_impl_PlaneOfCounts_l0, Int.toNat_natCast, L', den_go, den_call, m_IsPlane, den_brc, den_chs, den_ret, Bool.true_and]
          cases isPlane (pc s counts) <;> simp
      · have : ((counts.length : Int) != s.1.length) = true := by simpa using fun h => h3 (by omega)
        simp [h2n, this, h3]
theorem m_sPOC (s : Smp) (counts : List Int) : m_spec_PlaneOfCounts s counts = some (planeOf s counts) := by
  simp only [m_spec_PlaneOfCounts, s_spec_PlaneOfCounts, den_go, den_call, m_l2Sample, Option.bind_some, den_br, den_brk, den_brc, den_chs, den_ret, ln_eq, planeOf, beq_natCast0]
  cases h1 : isSample s with
  | false => simp
  | true =>
    by_cases h2 : s.1 = []
    · simp [h2]
    · have h2n : (s.1.length == 0) = false := by
        rw [beq_eq_false_iff_ne]
        intro h
        exact h2 (List.eq_nil_of_length_eq_zero h)
      have H := runs_of h1 h2
      by_cases h3 : counts.length = s.1.length
      · have h16 := H.2.1
        obtain ⟨y, r, hy⟩ : ∃ y r, s.1 = y :: r := by
          cases hs : s.1 with
          | nil => exact absurd hs h2
          | cons y r => exact ⟨y, r, rfl⟩
        have hyd : s.1.headD [] = y := by rw [hy]; rfl
        have hy4 : y.length ≤ 4 := by have := H.2.2.1; rw [hyd] at this; exact this
        have hg : getI s.1 0 = some y := by rw [getI_zero, hy]; rfl
        have L := spoc_l0 s counts H h3 ((s.1.zip s.2).zip counts) 0 (p0 s) rfl (Nat.zero_le _) (by simp [p0])
        have hpc : (p0 s) = (List.replicate y.length 0, 0) := by simp only [p0, hyd]
        have hmap : ((s.1.zip s.2).zip counts).map (·.2) = counts := List.map_snd_zip (by rw [zip_len H]; omega)
        have L' : lrun (fun (u : Int × List Int × Int) => den (spec_PlaneOfCounts_l0 s counts u.1 u.2.1 u.2.2)) (0, List.replicate y.length 0, 0) = some (if allIn counts 0 999 then .inr ((pc s counts).2, (pc s counts).1) else .inl ()) := by
          rw [hpc, hmap] at L
          rw [pc, hpc]
          exact L
        have a1 : 0 ≤ (y.length : Int) ∧ (y.length : Int) * (8 : Nat) ≤ 140737488355328 := by omega
        simp only [h2n, Bool.not_true, Bool.false_eq_true, if_false, h3, bne_self_eq_false, Option.bind_some, beq_self_eq_true, Bool.not_false, Bool.and_self, Bool.true_and, den_get, hg, den_mk, ln_eq, a1, and_self, if_true, den_lp2, m_spec_PlaneOfCounts_l0, Int.toNat_natCast, L', den_go]
        cases h4 : allIn counts 0 999 with
        | false => simp
        | true =>
          simp only [if_true, Sum.elim_inr, den_go, den_call, m_l2Plane, Option.bind_some, den_brc, den_chs, den_ret, Bool.true_and]
          cases isPlane (pc s counts) <;> simp
      · have : ((counts.length : Int) != s.1.length) = true := by simpa using fun h => h3 (by omega)
        simp [h2n, this, h3]
end Go.Abs
