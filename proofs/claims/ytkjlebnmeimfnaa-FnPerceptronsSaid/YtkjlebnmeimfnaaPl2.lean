import Derived.Test.YtkjlebnmeimfnaaPl1
namespace Go.Abs

def stepP (p : Pl) (x : List Int) (l : Int) : Pl × Bool :=
  if side p x == l then (p, false) else ((List.zipWith (fun w n => w64 (w + w64 (l * n))) p.1 x, w64 (p.2 - l)), true)

theorem fwd_set (g : Int → Int → Int) : ∀ (x w pre : List Int), w.length = x.length →
    fwd (fun i (o : List Int) n => (.inl (o.set i (g (o.getD i 0) n)) : List Int ⊕ List Int)) id x pre.length (pre ++ w) = pre ++ List.zipWith g w x
  | [], [], pre, _ => by simp [fwd]
  | n :: x, v :: w, pre, h => by
    have e : (pre ++ v :: w).set pre.length (g ((pre ++ v :: w).getD pre.length 0) n) = (pre ++ [g v n]) ++ w := by
      simp [List.getD_eq_getElem?_getD]
    simp only [fwd, e]
    have := fwd_set g x w (pre ++ [g v n]) (by simpa using h)
    simp only [List.length_append, List.length_singleton] at this
    rw [this]
    simp
  | [], _ :: _, pre, h => by simp at h
  | _ :: _, [], pre, h => by simp at h

theorem m_step (p : Pl) (x : List Int) (l : Int) (h : p.1.length = x.length) (hs : x.length ≤ 1000) : m_impl_Plane_step p x l = some (stepP p x l) := by
  simp only [m_impl_Plane_step, s_impl_Plane_step, den_go, den_call, m_side p x (by omega) (by omega), Option.bind_some, den_brc, den_ret, stepP]
  cases g : side p x == l with
  | true => simp
  | false =>
    have L := lrun_fwd (xs := x) (step := fun (s : List Int × Int) => den (impl_Plane_step_l0 p x l s.1 s.2)) (fun i o => (o, (i : Int))) (fun i o n => .inl (o.set i ((fun w n => w64 (w + w64 (l * n))) (o.getD i 0) n))) id (fun _ o => o.length = x.length)
      (fun i o n hI hx => by
        have hi := (List.getElem?_eq_some_iff.1 hx).1
        obtain ⟨w, hw⟩ : ∃ w, o[i]? = some w := ⟨o[i], List.getElem?_eq_getElem (by omega)⟩
        refine ⟨?_, fun s' h => by injection h with h; subst h; simpa using hI⟩
        simp only [impl_Plane_step_l0, den_go, den_brc, den_get, den_idx, den_ld, den_upd, den_ret, ln_eq, getI_nat, hx, Option.bind_some, Int.toNat_natCast, hw]
        rw [w64_nat (by omega)]
        simp only [List.getD_eq_getElem?_getD, hw, Option.getD_some]
        simp [hi, hI])
      (fun o hI => by simp [impl_Plane_step_l0, ln_eq]) p.1 h
    have e : lrun (fun (s : List Int × Int) => den (impl_Plane_step_l0 p x l s.1 s.2)) (p.1, 0) = _ := L
    have e2 := fwd_set (fun w n => w64 (w + w64 (l * n))) x p.1 [] h
    simp only [List.length_nil, List.nil_append] at e2
    simp only [Bool.false_eq_true, if_false, m_copied_o p.1 (by omega), Option.bind_some, den_lp, m_impl_Plane_step_l0, e, e2, den_go, den_ret]

theorem m_l3Step (p : Pl) (x : List Int) (l : Int) (h : p.1.length = x.length) (hs : x.length ≤ 1000) : m_spec_l3Step p x l = some (stepP p x l) := by
  simp only [m_spec_l3Step, s_spec_l3Step, den_go, den_call, m_l2Side p x (by omega) (by omega), Option.bind_some, den_brc, den_ret, stepP]
  cases g : side p x == l with
  | true => simp
  | false =>
    have L := lrun_fwd (xs := x) (step := fun (s : List Int × Int) => den (spec_l3Step_l0 p x l s.1 s.2)) (fun i o => (o, (i : Int))) (fun i o n => .inl (o.set i ((fun w n => w64 (w + w64 (l * n))) (o.getD i 0) n))) id (fun _ o => o.length = x.length)
      (fun i o n hI hx => by
        have hi := (List.getElem?_eq_some_iff.1 hx).1
        obtain ⟨w, hw⟩ : ∃ w, o[i]? = some w := ⟨o[i], List.getElem?_eq_getElem (by omega)⟩
        refine ⟨?_, fun s' h => by injection h with h; subst h; simpa using hI⟩
        simp only [spec_l3Step_l0, den_go, den_brc, den_get, den_idx, den_ld, den_upd, den_ret, ln_eq, getI_nat, hx, Option.bind_some, Int.toNat_natCast, hw]
        rw [w64_nat (by omega)]
        simp only [List.getD_eq_getElem?_getD, hw, Option.getD_some]
        simp [hi, hI])
      (fun o hI => by simp [spec_l3Step_l0, ln_eq]) p.1 h
    have e : lrun (fun (s : List Int × Int) => den (spec_l3Step_l0 p x l s.1 s.2)) (p.1, 0) = _ := L
    have e2 := fwd_set (fun w n => w64 (w + w64 (l * n))) x p.1 [] h
    simp only [List.length_nil, List.nil_append] at e2
    simp only [Bool.false_eq_true, if_false, m_own_o p.1 (by omega), Option.bind_some, den_lp, m_spec_l3Step_l0, e, e2, den_go, den_ret]

theorem stepP_len {p : Pl} {x : List Int} {l : Int} (h : p.1.length = x.length) : (stepP p x l).1.1.length = x.length := by
  unfold stepP
  split
  · exact h
  · simp [h]

/-! a round -/
def row : List (List Int × Int) → Nat → Pl → Option (Pl × List Pl × List Int)
  | [], _, p => some (p, [], [])
  | z :: r, i, p => if isPlane (stepP p z.1 z.2).1 then
      (match row r (i + 1) (stepP p z.1 z.2).1 with
        | some (q, ps, tr) => if (stepP p z.1 z.2).2 then some (q, (stepP p z.1 z.2).1 :: ps, (i : Int) :: tr) else some (q, ps, tr)
        | none => none)
    else none

theorem row_len : ∀ {zs : List (List Int × Int)} {i : Nat} {p q : Pl} {ps : List Pl} {tr : List Int}, row zs i p = some (q, ps, tr) → tr.length ≤ zs.length ∧ ps.length = tr.length
  | [], i, p, q, ps, tr, h => by simp only [row, Option.some.injEq, Prod.mk.injEq] at h; obtain ⟨_, rfl, rfl⟩ := h; simp
  | z :: r, i, p, q, ps, tr, h => by
    unfold row at h
    split at h
    · split at h
      · rename_i q' ps' tr' h1
        have := row_len h1
        split at h
        · simp only [Option.some.injEq, Prod.mk.injEq] at h; obtain ⟨_, rfl, rfl⟩ := h; simp; omega
        · simp only [Option.some.injEq, Prod.mk.injEq] at h; obtain ⟨_, rfl, rfl⟩ := h; simp; omega
      · cases h
    · cases h

theorem drop_cons {α : Type} {xs r : List α} {i : Nat} {x : α} (h : xs.drop i = x :: r) : xs[i]? = some x ∧ xs.drop (i + 1) = r ∧ i < xs.length := by
  have hx : xs[i]? = some x := by
    have := congrArg (·[0]?) h
    simpa [List.getElem?_drop] using this
  have hr : xs.drop (i + 1) = r := by
    have := congrArg List.tail h
    simpa [List.tail_drop] using this
  exact ⟨hx, hr, (List.getElem?_eq_some_iff.1 hx).1⟩
theorem drop_nil {α : Type} {xs : List α} {i : Nat} (h : xs.drop i = []) (hi : i ≤ xs.length) : i = xs.length := by
  have := congrArg List.length h
  simp at this
  omega

/-- a sample that a plane of some length may run over -/
def Runs (s : Smp) (d : Nat) : Prop := s.2.length = s.1.length ∧ s.1.length ≤ 16 ∧ d ≤ 4 ∧ ∀ x ∈ s.1, x.length = d

theorem runOf_l1 (s : Smp) (rounds : Int) (o : List Int) (t : Int) {d : Nat} (H : Runs s d) : ∀ (r : List (List Int × Int)) (i : Nat) (p : Pl) (ps : List Pl) (tr : List Int) (m : Nat), (s.1.zip s.2).drop i = r → i ≤ s.1.length → p.1.length = d →
    ps.length + r.length ≤ 1000 → tr.length + r.length ≤ 1000 → m + r.length ≤ 1000 →
    lrun (fun (u : List Int × Int × List Pl × List Int × Int × Int) => den (impl_runOf_l1 s rounds o t u.1 u.2.1 u.2.2.1 u.2.2.2.1 u.2.2.2.2.1 u.2.2.2.2.2)) (p.1, p.2, ps, tr, (m : Int), (i : Int)) =
      some (match row r i p with
        | none => .inl ()
        | some (q, ps', tr') => .inr (q.1, q.2, ps ++ ps', tr ++ tr', ((m + tr'.length : Nat) : Int)))
  | [], i, p, ps, tr, m, hr, hi, hp, h1, h2, h3 => by
    have : i = s.1.length := by
      have := drop_nil hr (by simp [H.1, hi])
      simpa [H.1] using this
    subst this
    refine (lrun_done (d := .inr (p.1, p.2, ps, tr, (m : Int))) ?_).trans ?_
    · simp [impl_runOf_l1, ln_eq]
    · simp [row]
  | z :: r, i, p, ps, tr, m, hr, hi, hp, h1, h2, h3 => by
    obtain ⟨hz, hr', hlt⟩ := drop_cons hr
    obtain ⟨x, l⟩ := z
    obtain ⟨hx, hl⟩ := List.getElem?_zip_eq_some.1 hz
    have hi' := (List.getElem?_eq_some_iff.1 hx).1
    have hxd := H.2.2.2 x (List.mem_of_getElem? hx)
    have hd := H.2.2.1
    have h16 := H.2.1
    simp only [List.length_cons] at h1 h2 h3
    have hm : w64 ((m : Int) + 1) = ((m + 1 : Nat) : Int) := w64_nat (by omega)
    have a1 : (ps.length + [(stepP p x l).1].length) * 32 ≤ 140737488355328 := by simp; omega
    have a2 : (tr.length + [(i : Int)].length) * 8 ≤ 140737488355328 := by simp; omega
    have hn := stepP_len (l := l) (hp.trans hxd.symm)
    have st : den (impl_runOf_l1 s rounds o t p.1 p.2 ps tr (m : Int) (i : Int)) = some (if isPlane (stepP p x l).1 then
        .inl (if (stepP p x l).2 then ((stepP p x l).1.1, (stepP p x l).1.2, ps ++ [(stepP p x l).1], tr ++ [(i : Int)], ((m + 1 : Nat) : Int), ((i + 1 : Nat) : Int)) else ((stepP p x l).1.1, (stepP p x l).1.2, ps, tr, (m : Int), ((i + 1 : Nat) : Int)))
        else .inr (.inl ())) := by
      simp only [impl_runOf_l1, den_go, den_brc, den_get, den_call, den_ret, den_chs, den_app, ln_eq, getI_nat, hx, hl, Option.bind_some, m_step p x l (by omega) (by omega), m_IsPlane]
      have hi1 : w64 ((i : Int) + 1) = ((i + 1 : Nat) : Int) := w64_nat (by omega)
      rw [hm, hi1]
      simp only [Int.ofNat_lt, hi', decide_true, if_true, a1, a2]
      cases isPlane (stepP p x l).1 <;> cases (stepP p x l).2 <;> simp
    unfold row
    cases g : isPlane (stepP p x l).1 with
    | false =>
      rw [g] at st
      rw [lrun_done st]
      simp
    | true =>
      rw [g] at st
      simp only [if_true] at st ⊢
      rw [lrun_next st]
      cases g2 : (stepP p x l).2 with
      | true =>
        simp only [if_true]
        rw [runOf_l1 s rounds o t H r (i + 1) (stepP p x l).1 (ps ++ [(stepP p x l).1]) (tr ++ [(i : Int)]) (m + 1) hr' (by omega) (by omega) (by simp; omega) (by simp; omega) (by omega)]
        cases row r (i + 1) (stepP p x l).1 with
        | none => rfl
        | some y => obtain ⟨q, ps', tr'⟩ := y; simp; omega
      | false =>
        simp only [if_false, Bool.false_eq_true]
        rw [runOf_l1 s rounds o t H r (i + 1) (stepP p x l).1 ps tr m hr' (by omega) (by omega) (by omega) (by omega) (by omega)]
        cases row r (i + 1) (stepP p x l).1 with
        | none => rfl
        | some y => rfl
/-! rounds -/
def rnds (zs : List (List Int × Int)) : Nat → Pl → Option (Pl × List Pl × List Int × List Int)
  | 0, p => some (p, [], [], [])
  | k + 1, p => match row zs 0 p with
    | none => none
    | some (q, ps, tr) => if tr = [] then some (q, ps, tr, [0]) else
      (match rnds zs k q with
        | none => none
        | some (q', ps', tr', ms) => some (q', ps ++ ps', tr ++ tr', (tr.length : Int) :: ms))

theorem row_end : ∀ {zs : List (List Int × Int)} {d : Nat} (hd : ∀ z ∈ zs, z.1.length = d) {i : Nat} {p q : Pl} {ps : List Pl} {tr : List Int}, p.1.length = d → row zs i p = some (q, ps, tr) → q.1.length = d
  | [], d, hd, i, p, q, ps, tr, hp, h => by simp only [row, Option.some.injEq, Prod.mk.injEq] at h; obtain ⟨rfl, _, _⟩ := h; exact hp
  | z :: r, d, hd, i, p, q, ps, tr, hp, h => by
    have hz := hd z (List.mem_cons_self ..)
    have hn := stepP_len (l := z.2) (hp.trans hz.symm)
    unfold row at h
    split at h
    · split at h
      · rename_i q' ps' tr' h1
        have := row_end (fun z' hz' => hd z' (List.mem_cons_of_mem _ hz')) (hn.trans hz) h1
        split at h
        · simp only [Option.some.injEq, Prod.mk.injEq] at h; obtain ⟨rfl, _, _⟩ := h; exact this
        · simp only [Option.some.injEq, Prod.mk.injEq] at h; obtain ⟨rfl, _, _⟩ := h; exact this
      · cases h
    · cases h

theorem zip_d {s : Smp} {d : Nat} (H : Runs s d) : ∀ z ∈ s.1.zip s.2, z.1.length = d := fun z hz => H.2.2.2 _ (List.of_mem_zip hz).1
theorem zip_len {s : Smp} {d : Nat} (H : Runs s d) : (s.1.zip s.2).length = s.1.length := by rw [List.length_zip, H.1]; simp

theorem runOf_l0 (s : Smp) (rounds : Int) {d : Nat} (H : Runs s d) : ∀ (k : Nat) (t : Nat) (p : Pl) (ps : List Pl) (tr ms : List Int), (t : Int) + k = rounds → t + k ≤ 12 → p.1.length = d →
    ps.length + 16 * k ≤ 900 → tr.length + 16 * k ≤ 900 → ms.length + k ≤ 900 →
    lrun (fun (u : List Int × Int × List Pl × List Int × List Int × Int) => den (impl_runOf_l0 s rounds u.1 u.2.1 u.2.2.1 u.2.2.2.1 u.2.2.2.2.1 u.2.2.2.2.2)) (p.1, p.2, ps, tr, ms, (t : Int)) =
      some (match rnds (s.1.zip s.2) k p with
        | none => .inl ()
        | some (q, ps', tr', ms') => .inr (ps ++ ps', tr ++ tr', ms ++ ms'))
  | 0, t, p, ps, tr, ms, ht, h12, hp, h1, h2, h3 => by
    refine (lrun_done (d := .inr (ps, tr, ms)) ?_).trans ?_
    · have : ¬ ((t : Int) < rounds) := by omega
      simp [impl_runOf_l0, this]
    · simp [rnds]
  | k + 1, t, p, ps, tr, ms, ht, h12, hp, h1, h2, h3 => by
    have hl := zip_len H
    have h16 := H.2.1
    have L := runOf_l1 s rounds ms t H (s.1.zip s.2) 0 p ps tr 0 rfl (Nat.zero_le _) hp (by omega) (by omega) (by omega)
    have hlt : (t : Int) < rounds := by omega
    have ht1 : w64 ((t : Int) + 1) = ((t + 1 : Nat) : Int) := w64_nat (by omega)
    unfold rnds
    cases hrow : row (s.1.zip s.2) 0 p with
    | none =>
      rw [hrow] at L
      refine (lrun_done (d := .inl ()) ?_).trans rfl
      simp only [impl_runOf_l0, den_go, den_brc, hlt, decide_true, if_true, den_lp2, m_impl_runOf_l1]
      have L' : lrun _ (p.1, p.2, ps, tr, (0 : Int), (0 : Int)) = _ := L
      rw [L']
      simp
    | some y =>
      obtain ⟨q, ps', tr'⟩ := y
      rw [hrow] at L
      have hrl := row_len hrow
      have hqd := row_end (zip_d H) hp hrow
      have L' : lrun _ (p.1, p.2, ps, tr, (0 : Int), (0 : Int)) = _ := L
      have a1 : (ms.length + [((tr'.length : Nat) : Int)].length) * 8 ≤ 140737488355328 := by simp; omega
      have st : den (impl_runOf_l0 s rounds p.1 p.2 ps tr ms (t : Int)) = some (if tr' = [] then .inr (.inr (ps ++ ps', tr ++ tr', ms ++ [((tr'.length : Nat) : Int)])) else
          .inl (q.1, q.2, ps ++ ps', tr ++ tr', ms ++ [((tr'.length : Nat) : Int)], ((t + 1 : Nat) : Int))) := by
        simp only [impl_runOf_l0, den_go, den_brc, hlt, decide_true, if_true, den_lp2, m_impl_runOf_l1]
        rw [L']
        simp only [Option.bind_some, Sum.elim_inr, den_go, den_chs, den_app, den_brc, den_ret, Nat.zero_add, a1, if_true, ht1]
        by_cases h0 : tr' = []
        · simp [h0]
        · have : ¬ ((tr'.length : Int) = 0) := by
            intro h
            exact h0 (List.eq_nil_of_length_eq_zero (by omega))
          simp [h0, this]
      by_cases h0 : tr' = []
      · simp only [h0, if_true] at st ⊢
        rw [lrun_done st]
        simp
      · simp only [h0, if_false] at st ⊢
        rw [lrun_next st, runOf_l0 s rounds H k (t + 1) q (ps ++ ps') (tr ++ tr') (ms ++ [((tr'.length : Nat) : Int)]) (by omega) (by omega) hqd (by simp; omega) (by simp; omega) (by simp; omega)]
        cases rnds (s.1.zip s.2) k q with
        | none => rfl
        | some y => obtain ⟨q', ps'', tr'', ms''⟩ := y; simp

def p0 (s : Smp) : Pl := (List.replicate (s.1.headD []).length 0, 0)
def runN (s : Smp) (rounds : Int) : Option (List Pl × List Int × List Int) :=
  if isSample s && !(s.1.length == 0) && within rounds 1 12 then
    (match rnds (s.1.zip s.2) rounds.toNat (p0 s) with
      | none => none
      | some (_, ps, tr, ms) => some (p0 s :: ps, tr, ms))
  else none
def theRun (s : Smp) (rounds : Int) : (List Pl × List Int × List Int) × Bool := match runN s rounds with | some r => (r, true) | none => (([], [], []), false)

theorem isPoint_len {x : List Int} (h : isPoint x = true) : 1 ≤ x.length ∧ x.length ≤ 4 := by
  simp only [isPoint, Bool.and_eq_true, within_iff] at h
  omega
theorem runs_of {s : Smp} (h : isSample s = true) (hn : s.1 ≠ []) : Runs s (s.1.headD []).length := by
  simp only [isSample, Bool.and_eq_true, decide_eq_true_eq, List.all_eq_true, beq_iff_eq] at h
  obtain ⟨⟨⟨h1, h2⟩, h3⟩, h4⟩ := h
  refine ⟨h2, h1, ?_, fun x hx => (h3 x hx).2⟩
  cases hs : s.1 with
  | nil => exact absurd hs hn
  | cons y r =>
    have := (h3 y (by rw [hs]; simp)).1
    exact (isPoint_len this).2

theorem m_runOf (s : Smp) (rounds : Int) : m_impl_runOf s rounds = some (theRun s rounds) := by
  simp only [m_impl_runOf, s_impl_runOf, den_go, den_call, m_IsSample, Option.bind_some, den_br, den_brk, den_brc, den_chs, den_ret, ln_eq, m_within, theRun, runN]
  cases h1 : isSample s with
  | false => simp
  | true =>
    by_cases h2 : s.1 = []
    · simp [h2]
    · have h2' : ¬ ((s.1.length : Int) = 0) := by
        intro h
        exact h2 (List.eq_nil_of_length_eq_zero (by omega))
      have h2n : ¬ (s.1.length = 0) := by omega
      cases h3 : within rounds 1 12 with
      | false => simp [h2', h2n]
      | true =>
        have H := runs_of h1 h2
        have hw := within_iff.1 h3
        obtain ⟨y, r, hy⟩ : ∃ y r, s.1 = y :: r := by
          cases hs : s.1 with
          | nil => exact absurd hs h2
          | cons y r => exact ⟨y, r, rfl⟩
        have hyd : s.1.headD [] = y := by rw [hy]; rfl
        have hy4 : y.length ≤ 4 := by have := H.2.2.1; rw [hyd] at this; exact this
        have hg : getI s.1 0 = some y := by rw [getI_zero, hy]; rfl
        have L := runOf_l0 s rounds H rounds.toNat 0 (p0 s) [p0 s] [] [] (by omega) (by omega) (by simp [p0]) (by simp; omega) (by simp; omega) (by simp; omega)
        simp only [p0, hyd] at L
        have L' : lrun (fun (u : List Int × Int × List Pl × List Int × List Int × Int) => den (impl_runOf_l0 s rounds u.1 u.2.1 u.2.2.1 u.2.2.2.1 u.2.2.2.2.1 u.2.2.2.2.2)) (List.replicate y.length 0, 0, [(List.replicate y.length 0, 0)], [], [], 0) = _ := L
        have a1 : 0 ≤ (y.length : Int) ∧ (y.length : Int) * (8 : Nat) ≤ 140737488355328 := by omega
        simp only [Bool.not_true, Bool.false_eq_true, if_false, beq_iff_eq, h2', h2n, den_get, hg, Option.bind_some, den_mk, a1, and_self, if_true, den_frz, den_go, den_chs, den_lp2, m_impl_runOf_l0, ln_eq, Int.toNat_natCast, Bool.and_self, decide_false, Bool.not_false]
        rw [L']
        simp only [p0, hyd]
        cases rnds (s.1.zip s.2) rounds.toNat (List.replicate y.length 0, 0) with
        | none => simp [h2n]
        | some y => obtain ⟨q, ps, tr, ms⟩ := y; simp [h2n]
end Go.Abs
