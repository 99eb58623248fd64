import Derived.Test.YtkjlebnmeimfnaaAbsKit
namespace Go.Abs

/-! numbers -/
theorem w64_id {n : Int} (h0 : -9223372036854775808 ≤ n) (h1 : n < 9223372036854775808) : w64 n = n := wrap_id h0 h1
theorem w64_range (n : Int) : -9223372036854775808 ≤ w64 n ∧ w64 n < 9223372036854775808 := by
  have e : w64 n = if n % 18446744073709551616 ≥ 9223372036854775808 then n % 18446744073709551616 - 18446744073709551616 else n % 18446744073709551616 := by
    show (if (true && decide (n % 18446744073709551616 ≥ 9223372036854775808)) = true then n % 18446744073709551616 - 18446744073709551616 else n % 18446744073709551616) = _
    simp
  rw [e]
  split <;> omega
theorem w64_nat {i : Nat} (h : i < 9223372036854775807) : w64 ((i : Int) + 1) = ((i + 1 : Nat) : Int) := by
  rw [w64_id (by omega) (by omega)]; rfl

/-! lists -/
theorem getI_nat {α : Type} {xs : List α} {i : Nat} : getI xs (i : Int) = xs[i]? := by simp [getI]
theorem getI_lit {α : Type} {xs : List α} {i : Nat} : getI xs (OfNat.ofNat i) = xs[i]? := getI_nat (i := i)
theorem getI_zero {α : Type} {xs : List α} : getI xs 0 = xs[0]? := rfl
theorem getI_ok {α : Type} {xs : List α} {i : Int} (h0 : 0 ≤ i) (h1 : i < xs.length) : ∃ x, getI xs i = some x ∧ xs[i.toNat]? = some x := by
  have : i.toNat < xs.length := by omega
  exact ⟨xs[i.toNat], by simp [getI, h0, List.getElem?_eq_getElem this], List.getElem?_eq_getElem this⟩

theorem lrun_next {σ ρ : Type} {step : σ → Option (σ ⊕ ρ)} {s s' : σ} (h : step s = some (.inl s')) : lrun step s = lrun step s' := by rw [lrun_eq, h]
theorem lrun_done {σ ρ : Type} {step : σ → Option (σ ⊕ ρ)} {s : σ} {d : ρ} (h : step s = some (.inr d)) : lrun step s = some d := by rw [lrun_eq, h]

/-! loops over a list -/
def fwd {α σ ρ : Type} (f : Nat → σ → α → σ ⊕ ρ) (fin : σ → ρ) : List α → Nat → σ → ρ
  | [], _, s => fin s
  | x :: r, i, s => match f i s x with
    | .inl s' => fwd f fin r (i + 1) s'
    | .inr d => d

theorem lrun_fwd {α σ τ ρ : Type} {xs : List α} {step : τ → Option (τ ⊕ ρ)} (S : Nat → σ → τ) (f : Nat → σ → α → σ ⊕ ρ) (fin : σ → ρ) (I : Nat → σ → Prop)
    (hs : ∀ i s x, I i s → xs[i]? = some x → step (S i s) = some (match f i s x with | .inl s' => .inl (S (i + 1) s') | .inr d => .inr d) ∧ ∀ s', f i s x = .inl s' → I (i + 1) s')
    (he : ∀ s, I xs.length s → step (S xs.length s) = some (.inr (fin s))) (s : σ) (h0 : I 0 s) : lrun step (S 0 s) = some (fwd f fin xs 0 s) := by
  have key : ∀ (r : List α) (i : Nat) (s : σ), I i s → xs.drop i = r → i ≤ xs.length → lrun step (S i s) = some (fwd f fin r i s) := by
    intro r
    induction r with
    | nil =>
      intro i s hI h hi
      have : i = xs.length := by
        have := congrArg List.length h
        simp at this
        omega
      subst this
      rw [lrun_eq, he s hI]
      rfl
    | cons x r ih =>
      intro i s hI h hi
      have hx : xs[i]? = some x := by
        have := congrArg (·[0]?) h
        simpa [List.getElem?_drop] using this
      have hr : xs.drop (i + 1) = r := by
        have := congrArg List.tail h
        simpa [List.tail_drop] using this
      have hl : i < xs.length := (List.getElem?_eq_some_iff.1 hx).1
      obtain ⟨h1, h2⟩ := hs i s x hI hx
      rw [lrun_eq, h1]
      unfold fwd
      cases hf : f i s x with
      | inl s' => exact ih (i + 1) s' (h2 s' hf) hr hl
      | inr d => rfl
  exact key xs 0 s h0 (by simp) (Nat.zero_le _)

/-- a loop that gathers -/
theorem lrun_fold {α σ τ ρ : Type} {xs : List α} {step : τ → Option (τ ⊕ ρ)} (S : Nat → σ → τ) (f : σ → α → σ) (fin : σ → ρ)
    (hs : ∀ i s x, xs[i]? = some x → step (S i s) = some (.inl (S (i + 1) (f s x)))) (he : ∀ s, step (S xs.length s) = some (.inr (fin s))) (s : σ) : lrun step (S 0 s) = some (fin (xs.foldl f s)) := by
  rw [lrun_fwd (xs := xs) S (fun _ s x => .inl (f s x)) fin (fun _ _ => True) (fun i s x _ hx => ⟨hs i s x hx, fun _ _ => trivial⟩) (fun s _ => he s) s trivial]
  congr 1
  have : ∀ (xs : List α) (i : Nat) (s : σ), fwd (fun _ s x => (.inl (f s x) : σ ⊕ ρ)) fin xs i s = fin (xs.foldl f s) := by
    intro xs
    induction xs with
    | nil => intro i s; rfl
    | cons x r ih => intro i s; exact ih (i + 1) (f s x)
  exact this xs 0 s

/-- a loop that gathers, with what is true at each place -/
theorem lrun_foldI {α σ τ ρ : Type} {xs : List α} {step : τ → Option (τ ⊕ ρ)} (S : Nat → σ → τ) (f : σ → α → σ) (fin : σ → ρ) (I : Nat → σ → Prop)
    (hs : ∀ i s x, I i s → xs[i]? = some x → step (S i s) = some (.inl (S (i + 1) (f s x))) ∧ I (i + 1) (f s x)) (he : ∀ s, I xs.length s → step (S xs.length s) = some (.inr (fin s))) (s : σ) (h0 : I 0 s) :
    lrun step (S 0 s) = some (fin (xs.foldl f s)) := by
  rw [lrun_fwd (xs := xs) S (fun _ s x => .inl (f s x)) fin I (fun i s x hI hx => ⟨(hs i s x hI hx).1, fun s' h => by injection h with h; subst h; exact (hs i s x hI hx).2⟩) he s h0]
  congr 1
  have : ∀ (xs : List α) (i : Nat) (s : σ), fwd (fun _ s x => (.inl (f s x) : σ ⊕ ρ)) fin xs i s = fin (xs.foldl f s) := by
    intro xs
    induction xs with
    | nil => intro i s; rfl
    | cons x r ih => intro i s; exact ih (i + 1) (f s x)
  exact this xs 0 s

/-- a loop that goes on as long as all is well -/
theorem lrun_all {α τ ρ : Type} {xs : List α} {step : τ → Option (τ ⊕ ρ)} (S : Nat → τ) (p : α → Bool) (A B : ρ)
    (hs : ∀ i x, xs[i]? = some x → step (S i) = some (if p x then .inl (S (i + 1)) else .inr B)) (he : step (S xs.length) = some (.inr A)) : lrun step (S 0) = some (if xs.all p then A else B) := by
  have := lrun_fwd (xs := xs) (step := step) (fun i (_ : Unit) => S i) (fun _ _ x => if p x then .inl () else .inr B) (fun _ => A) (fun _ _ => True)
    (fun i s x _ hx => ⟨by rw [hs i x hx]; by_cases h : p x <;> simp [h], fun _ _ => trivial⟩) (fun _ _ => he) () trivial
  rw [this]
  congr 1
  have : ∀ (xs : List α) (i : Nat), fwd (fun _ (_ : Unit) x => if p x then .inl () else .inr B) (fun _ => A) xs i () = if xs.all p then A else B := by
    intro xs
    induction xs with
    | nil => intro i; rfl
    | cons x r ih =>
      intro i
      unfold fwd
      by_cases h : p x
      · simp [h, ih]
      · simp [h]
  exact this xs 0

/-- a loop for a count -/
theorem lrun_count {σ τ ρ : Type} {n : Nat} {step : τ → Option (τ ⊕ ρ)} (S : Nat → σ → τ) (f : Nat → σ → σ) (fin : σ → ρ) (I : Nat → σ → Prop)
    (hs : ∀ i s, I i s → i < n → step (S i s) = some (.inl (S (i + 1) (f i s))) ∧ I (i + 1) (f i s)) (he : ∀ s, I n s → step (S n s) = some (.inr (fin s))) (s : σ) (h0 : I 0 s) :
    lrun step (S 0 s) = some (fin ((List.range n).foldl (fun s i => f i s) s)) :=
  lrun_foldI (xs := List.range n) S (fun s i => f i s) fin I (fun i s x hI hx => by
    obtain ⟨h1, h2⟩ := List.getElem?_eq_some_iff.1 hx
    have h1 : i < n := by simpa using h1
    have h2 : i = x := by simpa using h2
    subst h2
    exact hs i s hI h1) (fun s h => by simp only [List.length_range] at h ⊢; exact he s h) s h0

/-- a loop of which nothing is asked but that it ends, and what holds at its end -/
theorem lrun_ex {τ ρ : Type} {step : τ → Option (τ ⊕ ρ)} (I : τ → Prop) (R : ρ → Prop) (m : τ → Nat)
    (hs : ∀ s, I s → ∃ y, step s = some y ∧ match y with | .inl s' => I s' ∧ m s' < m s | .inr d => R d) (s : τ) (h0 : I s) : ∃ d, lrun step s = some d ∧ R d := by
  have key : ∀ (n : Nat) (s : τ), m s ≤ n → I s → ∃ d, lrun step s = some d ∧ R d := by
    intro n
    induction n with
    | zero =>
      intro s hm hI
      obtain ⟨y, hy, h⟩ := hs s hI
      cases y with
      | inl s' => obtain ⟨_, h⟩ := h; omega
      | inr d => exact ⟨d, by rw [lrun_eq, hy], h⟩
    | succ n ih =>
      intro s hm hI
      obtain ⟨y, hy, h⟩ := hs s hI
      cases y with
      | inl s' =>
        obtain ⟨d, hd, hr⟩ := ih s' (by have := h.2; omega) h.1
        exact ⟨d, by rw [lrun_eq, hy]; exact hd, hr⟩
      | inr d => exact ⟨d, by rw [lrun_eq, hy], h⟩
  exact key _ s (Nat.le_refl _) h0

end Go.Abs
