import Derived.Test.YtkjlebnmeimfnaaGx8
namespace Go.Abs

theorem w64_bmod (n : Int) : w64 n = Int.bmod n 18446744073709551616 := by
  have e : w64 n = if n % 18446744073709551616 ≥ 9223372036854775808 then n % 18446744073709551616 - 18446744073709551616 else n % 18446744073709551616 := by
    show (if (true && decide (n % 18446744073709551616 ≥ 9223372036854775808)) = true then n % 18446744073709551616 - 18446744073709551616 else n % 18446744073709551616) = _
    simp
  rw [e, Int.bmod_def]
  split <;> split <;> omega
theorem w64_add (a b : Int) : w64 (a + w64 b) = w64 (a + b) := by simp only [w64_bmod]; exact Int.add_bmod_bmod
theorem w64_add' (a b : Int) : w64 (w64 a + b) = w64 (a + b) := by simp only [w64_bmod]; exact Int.bmod_add_bmod
theorem w64_w64 (a : Int) : w64 (w64 a) = w64 a := by simp only [w64_bmod]; exact Int.bmod_bmod

def within (n a b : Int) : Bool := decide (n ≥ a) && decide (n ≤ b)
def allIn (xs : List Int) (a b : Int) : Bool := xs.all fun x => within x a b
def isPoint (xs : List Int) : Bool := within xs.length 1 4 && allIn xs (-9) 9
def isLabel (n : Int) : Bool := n == 1 || n == -1
abbrev Smp := List (List Int) × List Int
abbrev Pl := List Int × Int
def isSample (s : Smp) : Bool :=
  decide (s.1.length ≤ 16) && decide (s.2.length = s.1.length) && (s.1.all fun x => isPoint x && x.length == (s.1.headD []).length) && s.2.all isLabel
def isPlane (p : Pl) : Bool := within p.1.length 1 4 && allIn p.1 (-99) 99 && within p.2 (-99) 99
def dot : List Int → List Int → Int
  | a :: r, b :: s => a * b + dot r s
  | _, _ => 0
def side (p : Pl) (x : List Int) : Int := if w64 (dot p.1 x) ≥ p.2 then 1 else -1

theorem within_iff {n a b : Int} : within n a b = true ↔ a ≤ n ∧ n ≤ b := by simp [within]

theorem m_within (n a b : Int) : m_impl_within n a b = some (within n a b) := by
  simp only [m_impl_within, s_impl_within, den_go, den_br, den_ret, within]
  by_cases h : n ≥ a <;> simp [h]
theorem m_l1In (n a b : Int) : m_spec_l1In n a b = some (within n a b) := by
  simp only [m_spec_l1In, s_spec_l1In, den_go, den_br, den_ret, within]
  by_cases h : n ≥ a <;> simp [h]

theorem m_allWithin (xs : List Int) (a b : Int) (h : xs.length < 9223372036854775807) : m_impl_allWithin xs a b = some (allIn xs a b) := by
  have L := lrun_all (xs := xs) (step := fun s => den (impl_allWithin_l0 xs a b s)) (fun i => (i : Int)) (fun x => within x a b) (.inr ()) (.inl ())
    (fun i x hx => by
      have hi := (List.getElem?_eq_some_iff.1 hx).1
      simp only [impl_allWithin_l0, den_go, den_brc, den_get, den_call, den_ret, ln_eq, getI_nat, hx, m_within, Option.bind_some]
      rw [w64_nat (by omega)]
      simp only [Int.ofNat_lt, hi, decide_true, if_true]
      by_cases hp : within x a b <;> simp [hp])
    (by simp [impl_allWithin_l0, ln_eq])
  simp only [m_impl_allWithin, s_impl_allWithin, den_go, den_lp2, m_impl_allWithin_l0]
  have e : lrun (fun s => den (impl_allWithin_l0 xs a b s)) 0 = _ := L
  rw [e]
  simp only [allIn, Option.bind_some]
  by_cases hp : xs.all fun x => within x a b <;> simp [hp]

theorem m_l2Numbers (xs : List Int) (b : Int) (hb : w64 (0 - b) = -b) (h : xs.length < 9223372036854775807) : m_spec_l2Numbers xs b = some (allIn xs (-b) b) := by
  have L := lrun_all (xs := xs) (step := fun s => den (spec_l2Numbers_l0 xs b s)) (fun i => (i : Int)) (fun x => within x (-b) b) (.inr ()) (.inl ())
    (fun i x hx => by
      have hi := (List.getElem?_eq_some_iff.1 hx).1
      simp only [spec_l2Numbers_l0, den_go, den_brc, den_get, den_call, den_ret, ln_eq, getI_nat, hx, m_l1In, Option.bind_some, hb]
      rw [w64_nat (by omega)]
      simp only [Int.ofNat_lt, hi, decide_true, if_true]
      by_cases hp : within x (-b) b <;> simp [hp])
    (by simp [spec_l2Numbers_l0, ln_eq])
  simp only [m_spec_l2Numbers, s_spec_l2Numbers, den_go, den_lp2, m_spec_l2Numbers_l0]
  have e : lrun (fun s => den (spec_l2Numbers_l0 xs b s)) 0 = _ := L
  rw [e]
  simp only [allIn, Option.bind_some]
  by_cases hp : xs.all fun x => within x (-b) b <;> simp [hp]

theorem len_of_within {xs : List Int} (h : within xs.length 1 4 = true) : xs.length ≤ 4 := by
  have := within_iff.1 h
  omega

theorem m_IsPoint (xs : List Int) : m_impl_IsPoint xs = some (isPoint xs) := by
  simp only [m_impl_IsPoint, s_impl_IsPoint, den_go, den_br, den_call, den_ret, ln_eq, m_within, Option.bind_some, isPoint]
  cases h : within xs.length 1 4 with
  | false => simp
  | true =>
    have := len_of_within h
    simp [m_allWithin xs _ _ (by omega)]
theorem m_l2Point (xs : List Int) : m_spec_l2Point xs = some (isPoint xs) := by
  simp only [m_spec_l2Point, s_spec_l2Point, den_go, den_br, den_call, den_ret, ln_eq, m_l1In, Option.bind_some, isPoint]
  cases h : within xs.length 1 4 with
  | false => simp
  | true =>
    have := len_of_within h
    simp [m_l2Numbers xs 9 (by decide) (by omega)]

theorem m_IsPlane (p : Pl) : m_impl_IsPlane p = some (isPlane p) := by
  simp only [m_impl_IsPlane, s_impl_IsPlane, den_go, den_br, den_call, den_ret, ln_eq, m_within, Option.bind_some, isPlane]
  cases h : within p.1.length 1 4 with
  | false => simp
  | true =>
    have := len_of_within h
    simp only [m_allWithin p.1 _ _ (by omega), if_true, Option.bind_some, Bool.true_and]
    cases allIn p.1 (-99) 99 <;> simp
theorem m_l2Plane (p : Pl) : m_spec_l2Plane p = some (isPlane p) := by
  simp only [m_spec_l2Plane, s_spec_l2Plane, den_go, den_br, den_call, den_ret, ln_eq, m_l1In, Option.bind_some, isPlane]
  cases h : within p.1.length 1 4 with
  | false => simp
  | true =>
    have := len_of_within h
    simp only [m_l2Numbers p.1 99 (by decide) (by omega), if_true, Option.bind_some, Bool.true_and]
    cases allIn p.1 (-99) 99 <;> simp

theorem m_isLabel (n : Int) : m_impl_isLabel n = some (isLabel n) := by
  simp only [m_impl_isLabel, s_impl_isLabel, den_go, den_br, den_ret, isLabel]
  cases h : n == 1 <;> simp
theorem m_l2Labels (xs : List Int) (h : xs.length < 9223372036854775807) : m_spec_l2Labels xs = some (xs.all isLabel) := by
  have L := lrun_all (xs := xs) (step := fun s => den (spec_l2Labels_l0 xs s)) (fun i => (i : Int)) isLabel (.inr ()) (.inl ())
    (fun i x hx => by
      have hi := (List.getElem?_eq_some_iff.1 hx).1
      simp only [spec_l2Labels_l0, den_go, den_brc, den_br, den_brk, den_get, den_ret, ln_eq, getI_nat, hx, Option.bind_some]
      rw [w64_nat (by omega)]
      simp only [Int.ofNat_lt, hi, decide_true, if_true, isLabel]
      by_cases h1 : x = 1
      · simp [h1]
      · by_cases h2 : x = -1 <;> simp [h1, h2])
    (by simp [spec_l2Labels_l0, ln_eq])
  simp only [m_spec_l2Labels, s_spec_l2Labels, den_go, den_lp2, m_spec_l2Labels_l0]
  have e : lrun (fun s => den (spec_l2Labels_l0 xs s)) 0 = _ := L
  rw [e]
  simp only [Option.bind_some]
  by_cases hp : xs.all isLabel <;> simp [hp]

theorem all_zip_and {α β : Type} (p : α → Bool) (q : β → Bool) : ∀ (xs : List α) (ys : List β), ys.length = xs.length → ((xs.zip ys).all fun z => p z.1 && q z.2) = (xs.all p && ys.all q)
  | [], [], _ => rfl
  | x :: xs, y :: ys, h => by
    simp only [List.zip_cons_cons, List.all_cons, all_zip_and p q xs ys (by simpa using h)]
    cases p x <;> cases q y <;> simp
  | [], _ :: _, h => by simp at h
  | _ :: _, [], h => by simp at h

theorem headD_get {α : Type} {xs : List α} {i : Nat} {x d : α} (h : xs[i]? = some x) : ∃ y, xs[0]? = some y ∧ xs.headD d = y := by
  cases xs with
  | nil => simp at h
  | cons y r => exact ⟨y, rfl, rfl⟩

theorem m_IsSample (s : Smp) : m_impl_IsSample s = some (isSample s) := by
  simp only [m_impl_IsSample, s_impl_IsSample, den_go, den_br, den_brc, den_brk, den_call, den_ret, ln_eq, den_lp2, m_impl_IsSample_l0, isSample]
  by_cases h1 : s.1.length ≤ 16
  · have h1' : ¬ ((s.1.length : Int) > 16) := by omega
    simp only [h1', decide_false, h1, decide_true, Bool.true_and, if_false, Bool.false_eq_true]
    by_cases h2 : s.2.length = s.1.length
    · have L := lrun_all (xs := s.1.zip s.2) (step := fun t => den (impl_IsSample_l0 s t)) (fun i => (i : Int)) (fun z => (isPoint z.1 && z.1.length == (s.1.headD []).length) && isLabel z.2) (.inr ()) (.inl ())
        (fun i z hz => by
          obtain ⟨x, l⟩ := z
          obtain ⟨hx, hl⟩ := List.getElem?_zip_eq_some.1 hz
          have hi := (List.getElem?_eq_some_iff.1 hx).1
          obtain ⟨y, hy, hyd⟩ := headD_get (d := []) hx
          simp only [impl_IsSample_l0, den_go, den_brc, den_br, den_brk, den_get, den_call, den_ret, ln_eq, getI_nat, getI_zero, hx, hl, hy, m_IsPoint, m_isLabel, Option.bind_some, hyd]
          rw [w64_nat (by omega)]
          simp only [Int.ofNat_lt, hi, decide_true, if_true]
          cases isPoint x with
          | false => simp
          | true =>
            by_cases h3 : x.length = y.length
            · cases isLabel l <;> simp [h3]
            · have : ¬ ((x.length : Int) = y.length) := by omega
              simp [h3, this])
        (by simp [impl_IsSample_l0, ln_eq, h2])
      have e : lrun (fun t => den (impl_IsSample_l0 s t)) 0 = _ := L
      rw [e, all_zip_and (fun x => isPoint x && x.length == (s.1.headD []).length) isLabel _ _ h2]
      simp only [h2, bne_self_eq_false, Bool.false_eq_true, if_false, decide_true, Bool.true_and, Option.bind_some]
      cases (s.1.all fun x => isPoint x && x.length == (s.1.headD []).length) && s.2.all isLabel <;> simp
    · have : ((s.2.length : Int) != s.1.length) = true := by simpa using fun h => h2 (by omega)
      simp [this, h2]
  · have h1' : (s.1.length : Int) > 16 := by omega
    simp [h1', h1]

theorem m_l2Sample (s : Smp) : m_spec_l2Sample s = some (isSample s) := by
  simp only [m_spec_l2Sample, s_spec_l2Sample, den_go, den_br, den_brc, den_brk, den_call, den_ret, ln_eq, den_lp2, m_spec_l2Sample_l0, isSample]
  by_cases h1 : s.1.length ≤ 16
  · have h1' : ¬ ((s.1.length : Int) > 16) := by omega
    simp only [h1', decide_false, h1, decide_true, Bool.true_and, if_false, Bool.false_eq_true]
    by_cases h2 : s.2.length = s.1.length
    · have L := lrun_all (xs := s.1) (step := fun t => den (spec_l2Sample_l0 s t)) (fun i => (i : Int)) (fun x => isPoint x && x.length == (s.1.headD []).length) (.inr ()) (.inl ())
        (fun i x hx => by
          have hi := (List.getElem?_eq_some_iff.1 hx).1
          obtain ⟨y, hy, hyd⟩ := headD_get (d := []) hx
          simp only [spec_l2Sample_l0, den_go, den_brc, den_br, den_brk, den_get, den_call, den_ret, ln_eq, getI_nat, getI_zero, hx, hy, m_l2Point, Option.bind_some, hyd]
          rw [w64_nat (by omega)]
          simp only [Int.ofNat_lt, hi, decide_true, if_true]
          cases isPoint x with
          | false => simp
          | true =>
            by_cases h3 : x.length = y.length
            · simp [h3]
            · have : ¬ ((x.length : Int) = y.length) := by omega
              simp [h3, this])
        (by simp [spec_l2Sample_l0, ln_eq])
      have e : lrun (fun t => den (spec_l2Sample_l0 s t)) 0 = _ := L
      rw [e, m_l2Labels _ (by omega)]
      simp only [h2, bne_self_eq_false, Bool.false_eq_true, if_false, decide_true, Bool.true_and, Option.bind_some]
      cases s.1.all fun x => isPoint x && x.length == (s.1.headD []).length <;> cases s.2.all isLabel <;> simp
    · have : ((s.2.length : Int) != s.1.length) = true := by simpa using fun h => h2 (by omega)
      simp [this, h2]
  · have h1' : (s.1.length : Int) > 16 := by omega
    simp [h1', h1]

/-! products -/
theorem foldl_dot : ∀ (a b : List Int) (s : Int), (a.zip b).foldl (fun s p => w64 (s + w64 (p.1 * p.2))) s = if a = [] ∨ b = [] then s else w64 (s + dot a b)
  | [], b, s => by simp
  | x :: a, [], s => by simp
  | x :: a, y :: b, s => by
    simp only [List.zip_cons_cons, List.foldl_cons, foldl_dot a b, dot]
    by_cases h : a = [] ∨ b = []
    · have : dot a b = 0 := by
        rcases h with rfl | rfl
        · rfl
        · cases a <;> rfl
      simp [h, this, w64_add]
    · simp only [h, if_false, reduceCtorEq, or_self]
      rw [w64_add', Int.add_right_comm, w64_add, Int.add_assoc, Int.add_comm (dot a b)]

theorem m_product (a b : List Int) (h : a.length ≤ b.length) (hs : a.length < 9223372036854775807) : m_impl_product a b = some (w64 (dot a b)) := by
  have L := lrun_fold (xs := a.zip b) (step := fun (s : Int × Int) => den (impl_product_l0 a b s.1 s.2)) (fun i (s : Int) => (s, (i : Int))) (fun s p => w64 (s + w64 (p.1 * p.2))) (fun s => s)
    (fun i s p hx => by
      obtain ⟨x, y⟩ := p
      obtain ⟨hx, hy⟩ := List.getElem?_zip_eq_some.1 hx
      have hi := (List.getElem?_eq_some_iff.1 hx).1
      simp only [impl_product_l0, den_go, den_brc, den_get, den_ret, ln_eq, getI_nat, hx, hy, Option.bind_some]
      rw [w64_nat (by omega)]
      simp [hi])
    (fun s => by
      have : min a.length b.length = a.length := by omega
      simp [impl_product_l0, ln_eq, this]) 0
  simp only [m_impl_product, s_impl_product, den_go, den_lp, den_ret, m_impl_product_l0]
  have e : lrun (fun (s : Int × Int) => den (impl_product_l0 a b s.1 s.2)) (0, 0) = _ := L
  rw [e, foldl_dot]
  by_cases ha : a = [] ∨ b = []
  · have : dot a b = 0 := by
      rcases ha with rfl | rfl
      · rfl
      · cases a <;> rfl
    simp [ha, this]; decide
  · simp [ha]
theorem m_l2Dot (a b : List Int) (h : a.length ≤ b.length) (hs : a.length < 9223372036854775807) : m_spec_l2Dot a b = some (w64 (dot a b)) := by
  have L := lrun_fold (xs := a.zip b) (step := fun (s : Int × Int) => den (spec_l2Dot_l0 a b s.1 s.2)) (fun i (s : Int) => (s, (i : Int))) (fun s p => w64 (s + w64 (p.1 * p.2))) (fun s => s)
    (fun i s p hx => by
      obtain ⟨x, y⟩ := p
      obtain ⟨hx, hy⟩ := List.getElem?_zip_eq_some.1 hx
      have hi := (List.getElem?_eq_some_iff.1 hx).1
      simp only [spec_l2Dot_l0, den_go, den_brc, den_get, den_ret, ln_eq, getI_nat, hx, hy, Option.bind_some]
      rw [w64_nat (by omega)]
      simp [hi])
    (fun s => by
      have : min a.length b.length = a.length := by omega
      simp [spec_l2Dot_l0, ln_eq, this]) 0
  simp only [m_spec_l2Dot, s_spec_l2Dot, den_go, den_lp, den_ret, m_spec_l2Dot_l0]
  have e : lrun (fun (s : Int × Int) => den (spec_l2Dot_l0 a b s.1 s.2)) (0, 0) = _ := L
  rw [e, foldl_dot]
  by_cases ha : a = [] ∨ b = []
  · have : dot a b = 0 := by
      rcases ha with rfl | rfl
      · rfl
      · cases a <;> rfl
    simp [ha, this]; decide
  · simp [ha]

theorem m_side (p : Pl) (x : List Int) (h : p.1.length ≤ x.length) (hs : p.1.length < 9223372036854775807) : m_impl_Plane_side p x = some (side p x) := by
  simp only [m_impl_Plane_side, s_impl_Plane_side, den_go, den_call, m_product _ _ h hs, Option.bind_some, den_brc, den_ret, side]
  by_cases g : w64 (dot p.1 x) ≥ p.2 <;> simp [g]
theorem m_l2Side (p : Pl) (x : List Int) (h : p.1.length ≤ x.length) (hs : p.1.length < 9223372036854775807) : m_spec_l2Side p x = some (side p x) := by
  simp only [m_spec_l2Side, s_spec_l2Side, den_go, den_call, m_l2Dot _ _ h hs, Option.bind_some, den_brc, den_ret, side]
  by_cases g : w64 (dot p.1 x) ≥ p.2 <;> simp [g]

theorem m_copied (a : List Int) (h : a.length ≤ 1000000) : m_impl_copied a = some a := by
  have : a.length * 8 ≤ 140737488355328 := by omega
  simp [m_impl_copied, s_impl_copied, this]
theorem m_copied_o (a : List Int) (h : a.length ≤ 1000000) : m_impl_copied_o0 a = some a := by
  have : a.length * 8 ≤ 140737488355328 := by omega
  simp [m_impl_copied_o0, s_impl_copied_o0, this]
theorem m_own (a : List Int) (h : a.length ≤ 1000000) : m_spec_l1Own a = some a := by
  have : a.length * 8 ≤ 140737488355328 := by omega
  simp [m_spec_l1Own, s_spec_l1Own, this]
theorem m_own_o (a : List Int) (h : a.length ≤ 1000000) : m_spec_l1Own_o0 a = some a := by
  have : a.length * 8 ≤ 140737488355328 := by omega
  simp [m_spec_l1Own_o0, s_spec_l1Own_o0, this]
end Go.Abs
