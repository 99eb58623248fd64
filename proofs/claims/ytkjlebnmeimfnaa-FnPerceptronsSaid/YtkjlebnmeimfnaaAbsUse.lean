import Derived.Test.YtkjlebnmeimfnaaAbsFn
namespace Go.Abs

/-- the loops of a code, in the text's order -/
def loopsIn : Code → List Code
  | .seq a b => loopsIn a ++ loopsIn b
  | .cond _ a b => loopsIn a ++ loopsIn b
  | .block _ a => loopsIn a
  | .loop a => a :: loopsIn a
  | _ => []
def bodyOf (P : Program) (f n : Nat) : Code :=
  match P.funcs[f]? with
  | some fn => match fn.body with
    | some c => (loopsIn c).getD n .skip
    | none => .skip
  | none => .skip
def mkSl (n : Nat) : List (Nat × T) → List T
  | [] => List.replicate n .undef
  | (i, t) :: r => setL (mkSl n r) i t

abbrev encI (xs : List Int) : List (List V) := xs.map fun n => [V.int .i64 n]
abbrev tA (xs : List Int) : T := .one (.arr 1 (encI xs))
abbrev tI (n : Int) : T := .one (.int .i64 n)
abbrev tB (b : Bool) : T := .one (.bool b)
abbrev vI (n : Int) : V := .int .i64 n
abbrev vA (xs : List Int) : V := .arr 1 (encI xs)
abbrev encPts (xs : List (List Int)) : List (List V) := xs.map fun x => [vA x]
abbrev vPts (xs : List (List Int)) : V := .arr 1 (encPts xs)
abbrev tPts (xs : List (List Int)) : T := .one (vPts xs)
abbrev encPls (xs : List (List Int × Int)) : List (List V) := xs.map fun p => [vA p.1, vI p.2]
abbrev vPls (xs : List (List Int × Int)) : V := .arr 2 (encPls xs)
abbrev tPls (xs : List (List Int × Int)) : T := .one (vPls xs)
abbrev tP (ws : List Int) (b : Int) : T := .agg [vA ws, vI b]
abbrev tS (pts : List (List Int)) (labs : List Int) : T := .agg [vPts pts, vA labs]
abbrev w64 (n : Int) : Int := IntKind.i64.wrap n

/-- one round, and what is kept behind it -/
def runR (CO : CallP) (EO : ExecP) (P : Program) (body : Code) (st : St) (sc : List Item) (slots sites xslots xsites : List Nat) : Option (List Prop × AExit × St) :=
  match runC CO EO P body st sc with
  | some (p, .normal, st', []) => match keepsI sites st'.ob with | true => some (p, .normal, proj slots sites st') | false => none
  | some (p, e, st', []) => match keepsI xsites st'.ob with | true => some (p, e, proj xslots xsites st') | false => none
  | _ => none

section
variable {P : Program}

theorem LoopOK.proj_end {body : Code} {n : Nat} {st st' : St} {e : AExit} {slots sites : List Nat} (hk : keepsI sites st'.ob = true) (h : LoopOK P body n st e st') : LoopOK P body n st e (proj slots sites st') :=
  fun w own a S hd Q hQ => h w own a S hd Q fun a1 w1 own1 S1 hd1 W1 => hQ a1 w1 own1 S1.proj hd1 (W1.comp (WayI.proj hk))

theorem round_next (hm : P.follows .mixedOrders = true) {body : Code} {st st1 st' : St} {sc : List Item} {p : List Prop} {slots sites xslots xsites : List Nat} {n : Nat} {e : AExit}
    (h : runR (CallOK P) (ExecOK P) P body st sc slots sites xslots xsites = some (p, .normal, st1)) (hp : ∀ q ∈ p, q) (H : LoopOK P body n st1 e st') : LoopOK P body (n + 1) st e st' := by
  unfold runR at h
  split at h
  · rename_i p0 st0 h0
    split at h
    · rename_i hk
      simp only [Option.some.injEq, Prod.mk.injEq, true_and] at h
      obtain ⟨rfl, rfl⟩ := h
      exact loop_next hm h0 hp hk H
    · cases h
  · rename_i hne h0
    split at h
    · simp only [Option.some.injEq, Prod.mk.injEq] at h
      obtain ⟨rfl, rfl, rfl⟩ := h
      exact (hne rfl).elim
    · cases h
  · cases h

theorem round_last (hm : P.follows .mixedOrders = true) {body : Code} {st st1 : St} {sc : List Item} {p : List Prop} {slots sites xslots xsites : List Nat} {n : Nat} {e : AExit}
    (h : runR (CallOK P) (ExecOK P) P body st sc slots sites xslots xsites = some (p, e, st1)) (he : leaves e = true) (hp : ∀ q ∈ p, q) : LoopOK P body (n + 1) st e st1 := by
  unfold runR at h
  split at h
  · split at h
    · simp only [Option.some.injEq, Prod.mk.injEq] at h
      obtain ⟨rfl, rfl, rfl⟩ := h
      cases he
    · cases h
  · rename_i h0
    split at h
    · rename_i hk
      simp only [Option.some.injEq, Prod.mk.injEq] at h
      obtain ⟨rfl, rfl, rfl⟩ := h
      exact (loop_last hm h0 he hp).proj_end hk
    · cases h
  · cases h

/-! what stands in memory is not too long -/
inductive SmallV : V → Prop where
  | int (k n) : SmallV (.int k n)
  | bool (b) : SmallV (.bool b)
  | str (s) : SmallV (.str s)
  | nil : SmallV .nil
  | arr (sz : Nat) (xs : List (List V)) (hx : xs.length ≤ maxLen) (h : ∀ (i : Nat) (e : List V) (j : Nat) (x : V), xs[i]? = some e → e[j]? = some x → SmallV x) : SmallV (.arr sz xs)
  | ref (s v) : SmallV (.ref s v)
  | ptr (s v i off) : SmallV (.ptr s v i off)
  | ipt (cs off) : SmallV (.ipt cs off)
  | fn (f cap) : SmallV (.fn f cap)
  | void : SmallV .void
  | undef : SmallV .undef

def SmallT : T → Prop
  | .one v => SmallV v
  | .agg cs => ∀ v ∈ cs, SmallV v
  | .tup _ => True

theorem RepI.small {w fr x u} (h : RepI w fr x u) : SmallV x := by
  induction h with
  | int k n => exact .int k n
  | bool b => exact .bool b
  | str s => exact .str s
  | nil => exact .nil
  | arr sz xs A cap val hx hc hl hr hm ih => exact .arr sz xs hx ih

theorem RepV.small {w own ob x u} (h : RepV w own ob x u) : SmallV x := by
  cases x with
  | int k n => exact .int k n
  | bool b => exact .bool b
  | str s => exact .str s
  | nil => exact .nil
  | arr sz xs => exact RepI.small h
  | ref s v => exact .ref s v
  | ptr s v i off => exact .ptr s v i off
  | ipt cs off => exact .ipt cs off
  | fn f cap => exact .fn f cap
  | void => exact .void
  | undef => exact .undef

theorem RepT.small {w own ob} {t : T} {u} (h : RepT (RepV w own ob) t u) : SmallT t := by
  cases t with
  | one v => exact RepV.small h
  | agg cs =>
    obtain ⟨us, hus, h⟩ := h
    clear hus
    show ∀ v ∈ cs, SmallV v
    induction h with
    | nil => simp
    | cons h1 _ ih =>
      intro v hv
      rcases List.mem_cons.1 hv with rfl | hv
      · exact RepV.small h1
      · exact ih v hv
  | tup ts => trivial

/-- A contract may be shown for arguments that are not too long. -/
theorem CallOK.small {f : Nat} {args : List T} {oin : List Ob} {r : T} {oout : List Ob} (h : (∀ t ∈ args, SmallT t) → CallOK P f args oin r oout) : CallOK P f args oin r oout := by
  intro w own vals H hv
  refine h ?_ w own vals H hv
  clear h H
  induction hv with
  | nil => simp
  | cons h1 _ ih =>
    intro t ht
    rcases List.mem_cons.1 ht with rfl | ht
    · exact h1.small
    · exact ih t ht

theorem small_len {sz : Nat} {xs : List (List V)} (h : SmallV (.arr sz xs)) : xs.length ≤ maxLen := by cases h; assumption
theorem small_in {sz : Nat} {xs : List (List V)} (h : SmallV (.arr sz xs)) {i j : Nat} {e : List V} {x : V} (h1 : xs[i]? = some e) (h2 : e[j]? = some x) : SmallV x := by cases h with | arr _ _ _ h => exact h i e j x h1 h2

theorem small_I {xs : List Int} (h : SmallV (vA xs)) : xs.length < 9223372036854775808 := by
  have := small_len h
  simp only [List.length_map, maxLen] at this
  omega

theorem wrap_id {n : Int} (h0 : -9223372036854775808 ≤ n) (h1 : n < 9223372036854775808) : IntKind.i64.wrap n = n := by
  have e : IntKind.i64.wrap n = if n % 18446744073709551616 ≥ 9223372036854775808 then n % 18446744073709551616 - 18446744073709551616 else n % 18446744073709551616 := by
    show (if (true && decide (n % 18446744073709551616 ≥ 9223372036854775808)) = true then n % 18446744073709551616 - 18446744073709551616 else n % 18446744073709551616) = _
    simp
  rw [e]
  split <;> omega

abbrev AllP : List Prop → Prop
  | [] => True
  | q :: r => q ∧ AllP r
theorem AllP.all : ∀ {l : List Prop}, AllP l → ∀ q ∈ l, q
  | [], _, q, hq => by cases hq
  | a :: r, h, q, hq => by
    rcases List.mem_cons.1 hq with rfl | hq
    · exact h.1
    · exact AllP.all h.2 q hq

/-- the function does what a path of it says -/
theorem path_sound (hm : P.follows .mixedOrders = true) {f : Nat} {args : List T} {oin : List Ob} {sc : List Item} {frz out : List Nat} {p : List Prop} {r : T} {oout : List Ob}
    (h : runFn (CallOK P) (ExecOK P) P f args oin sc frz out = some (p, r, oout)) (hp : AllP p) : CallOK P f args oin r oout := fn_sound hm h hp.all

/-! a loop over a list -/
def RoundN (P : Program) (body : Code) (st st' : St) : Prop := ∀ n e stf, LoopOK P body n st' e stf → LoopOK P body (n + 1) st e stf
def RoundX (P : Program) (body : Code) (st : St) (e : AExit) (st' : St) : Prop := ∀ n, LoopOK P body (n + 1) st e st'

theorem roundN (hm : P.follows .mixedOrders = true) {body : Code} {st st1 : St} {sc : List Item} {p : List Prop} {slots sites xslots xsites : List Nat}
    (h : runR (CallOK P) (ExecOK P) P body st sc slots sites xslots xsites = some (p, .normal, st1)) (hp : AllP p) : RoundN P body st st1 := fun _ _ _ H => round_next hm h hp.all H
theorem roundX (hm : P.follows .mixedOrders = true) {body : Code} {st st1 : St} {sc : List Item} {p : List Prop} {slots sites xslots xsites : List Nat} {e : AExit}
    (h : runR (CallOK P) (ExecOK P) P body st sc slots sites xslots xsites = some (p, e, st1)) (he : leaves e = true) (hp : AllP p) : RoundX P body st e st1 := fun _ => round_last hm h he hp.all

/-- what a loop does at one place of a list: it goes on, or it is done -/
inductive Nx (σ : Type) where
  | go (s : σ)
  | out (e : AExit) (st : St)

def Nx.ok (P : Program) (body : Code) (st : St) {σ : Type} (S : σ → St) : Nx σ → Prop
  | .go s => RoundN P body st (S s)
  | .out e st' => RoundX P body st e st'

def runL {α σ : Type} (step : Nat → σ → α → Nx σ) (fin : σ → AExit × St) : List α → Nat → σ → AExit × St
  | [], _, s => fin s
  | x :: r, i, s => match step i s x with
    | .go s' => runL step fin r (i + 1) s'
    | .out e st => (e, st)

theorem loop_list {body : Code} {α σ : Type} {xs : List α} {S : Nat → σ → St} {step : Nat → σ → α → Nx σ} {fin : σ → AExit × St}
    (hs : ∀ i s x, xs[i]? = some x → (step i s x).ok P body (S i s) (S (i + 1))) (he : ∀ s, RoundX P body (S xs.length s) (fin s).1 (fin s).2) :
    ∀ (r : List α) (i : Nat) (s : σ), xs.drop i = r → i ≤ xs.length → LoopOK P body (r.length + 1) (S i s) (runL step fin r i s).1 (runL step fin r i s).2
  | [], i, s, h, hi => by
    have : i = xs.length := by
      have := congrArg List.length h
      simp at this
      omega
    subst this
    exact he s _
  | x :: r, i, s, h, hi => by
    have hx : xs[i]? = some x := by
      have := congrArg (·[0]?) h
      simpa [List.getElem?_drop] using this
    have hr : xs.drop (i + 1) = r := by
      have := congrArg List.tail h
      simpa [List.tail_drop] using this
    have hl : i < xs.length := by
      have := (List.getElem?_eq_some_iff.1 hx).1
      exact this
    have hst := hs i s x hx
    unfold runL
    generalize step i s x = d at hst
    cases d with
    | go s' => exact hst _ _ _ (loop_list hs he r (i + 1) s' hr hl)
    | out e st => exact hst _

theorem loop_exec {body : Code} {α σ : Type} {xs : List α} {S : Nat → σ → St} {step : Nat → σ → α → Nx σ} {fin : σ → AExit × St}
    (hs : ∀ i s x, xs[i]? = some x → (step i s x).ok P body (S i s) (S (i + 1))) (he : ∀ s, RoundX P body (S xs.length s) (fin s).1 (fin s).2) (s : σ) :
    ExecOK P (.loop body) (S 0 s) (runL step fin xs 0 s).1 (runL step fin xs 0 s).2 :=
  (loop_list hs he xs 0 s (by simp) (Nat.zero_le _)).exec

theorem dT {p : Prop} [Decidable p] (h : p) : decide p = true := decide_eq_true h
theorem dF {p : Prop} [Decidable p] (h : ¬p) : decide p = false := decide_eq_false h

theorem encI_get {xs : List Int} {i : Nat} {x : Int} (h : xs[i]? = some x) : (encI xs)[i]? = some [V.int .i64 x] := by simp [encI, h]
theorem runL_all {α : Type} (p : α → Bool) (A B : AExit × St) : ∀ (xs : List α) (i : Nat), runL (fun _ (_ : Unit) x => if p x then .go () else .out B.1 B.2) (fun _ => A) xs i () = if xs.all p then A else B
  | [], i => by simp [runL]
  | x :: r, i => by
    unfold runL
    by_cases h : p x
    · simp [h, runL_all p A B r]
    · simp [h]

theorem runL_foldl {α σ : Type} (f : σ → α → σ) (fin : σ → AExit × St) : ∀ (xs : List α) (i : Nat) (s : σ), runL (fun _ s x => .go (f s x)) fin xs i s = fin (xs.foldl f s)
  | [], i, s => rfl
  | x :: r, i, s => by
    unfold runL
    exact runL_foldl f fin r (i + 1) (f s x)

/-- a loop whose state is told by the place alone -/
theorem runL_go {α : Type} (A : AExit × St) : ∀ (xs : List α) (i : Nat), runL (fun _ (_ : Unit) _ => .go ()) (fun _ => A) xs i () = A
  | [], i => rfl
  | x :: r, i => by unfold runL; exact runL_go A r (i + 1)

theorem loop_go {body : Code} {α : Type} {xs : List α} {S : Nat → St} {e : AExit} {st : St} (hs : ∀ i x, xs[i]? = some x → RoundN P body (S i) (S (i + 1))) (he : RoundX P body (S xs.length) e st) : ExecOK P (.loop body) (S 0) e st := by
  have := loop_exec (P := P) (body := body) (xs := xs) (S := fun i (_ : Unit) => S i) (step := fun _ _ _ => .go ()) (fin := fun _ => (e, st)) (fun i _ x hx => hs i x hx) (fun _ => he) ()
  rwa [runL_go] at this

/-- a loop that goes on as long as all is well -/
theorem loop_all {body : Code} {α : Type} {xs : List α} (p : α → Bool) {S : Nat → St} {e e' : AExit} {st st' : St} (hs : ∀ i x, xs[i]? = some x → p x = true → RoundN P body (S i) (S (i + 1)))
    (hn : ∀ i x, xs[i]? = some x → p x = false → RoundX P body (S i) e' st') (he : RoundX P body (S xs.length) e st) : ExecOK P (.loop body) (S 0) (if xs.all p then e else e') (if xs.all p then st else st') := by
  have := loop_exec (P := P) (body := body) (xs := xs) (S := fun i (_ : Unit) => S i) (step := fun _ _ x => if p x then .go () else .out e' st') (fin := fun _ => (e, st)) (fun i _ x hx => by
    cases h : p x with
    | true => exact hs i x hx h
    | false => exact hn i x hx h) (fun _ => he) ()
  rw [runL_all p (e, st) (e', st')] at this
  cases h : xs.all p <;> simpa [h] using this

/-- a loop that gathers -/
theorem loop_fold {body : Code} {α σ : Type} {xs : List α} (f : σ → α → σ) {S : Nat → σ → St} {e : AExit} {st : σ → St} (hs : ∀ i s x, xs[i]? = some x → RoundN P body (S i s) (S (i + 1) (f s x))) (he : ∀ s, RoundX P body (S xs.length s) e (st s)) (s : σ) :
    ExecOK P (.loop body) (S 0 s) e (st (xs.foldl f s)) := by
  have := loop_exec (P := P) (body := body) (xs := xs) (S := S) (step := fun _ s x => .go (f s x)) (fin := fun s => (e, st s)) hs he s
  rwa [runL_foldl] at this

/-- what a loop over a list computes: it goes on with a state, or it is done with a result -/
def runK {α σ ρ : Type} (step : Nat → σ → α → σ ⊕ ρ) (fin : σ → ρ) : List α → Nat → σ → ρ
  | [], _, s => fin s
  | x :: r, i, s => match step i s x with
    | .inl s' => runK step fin r (i + 1) s'
    | .inr d => d

theorem loop_runK {body : Code} {α σ ρ : Type} {xs : List α} (step : Nat → σ → α → σ ⊕ ρ) (fin : σ → ρ) (I : Nat → σ → Prop) {S : Nat → σ → St} (E : ρ → AExit) (F : ρ → St)
    (hs : ∀ i s x, I i s → xs[i]? = some x → match step i s x with | .inl s' => RoundN P body (S i s) (S (i + 1) s') ∧ I (i + 1) s' | .inr d => RoundX P body (S i s) (E d) (F d))
    (he : ∀ s, I xs.length s → RoundX P body (S xs.length s) (E (fin s)) (F (fin s))) (s : σ) (h0 : I 0 s) : ExecOK P (.loop body) (S 0 s) (E (runK step fin xs 0 s)) (F (runK step fin xs 0 s)) := by
  have key : ∀ (r : List α) (i : Nat) (s : σ), I i s → xs.drop i = r → i ≤ xs.length → LoopOK P body (r.length + 1) (S i s) (E (runK step fin r i s)) (F (runK step fin r i s)) := by
    intro r
    induction r with
    | nil =>
      intro i s hI h hi
      have : i = xs.length := by
        have := congrArg List.length h
        simp at this
        omega
      subst this
      exact he s hI _
    | cons x r ih =>
      intro i s hI h hi
      have hx : xs[i]? = some x := by
        have := congrArg (·[0]?) h
        simpa [List.getElem?_drop] using this
      have hr : xs.drop (i + 1) = r := by
        have := congrArg List.tail h
        simpa [List.tail_drop] using this
      have hl : i < xs.length := (List.getElem?_eq_some_iff.1 hx).1
      have hst := hs i s x hI hx
      unfold runK
      generalize step i s x = d at hst
      cases d with
      | inl s' => exact hst.1 _ _ _ (ih (i + 1) s' hst.2 hr hl)
      | inr d => exact hst _
  exact (key xs 0 s h0 (by simp) (Nat.zero_le _)).exec

theorem runK_inv {α σ ρ : Type} {xs : List α} (step : Nat → σ → α → σ ⊕ ρ) (fin : σ → ρ) (I : Nat → σ → Prop) (R : ρ → Prop)
    (hs : ∀ i s x, I i s → xs[i]? = some x → match step i s x with | .inl s' => I (i + 1) s' | .inr d => R d) (he : ∀ s, I xs.length s → R (fin s)) (s : σ) (h0 : I 0 s) : R (runK step fin xs 0 s) := by
  have key : ∀ (r : List α) (i : Nat) (s : σ), I i s → xs.drop i = r → i ≤ xs.length → R (runK step fin r i s) := by
    intro r
    induction r with
    | nil =>
      intro i s hI h hi
      have : i = xs.length := by
        have := congrArg List.length h
        simp at this
        omega
      subst this
      exact he s hI
    | cons x r ih =>
      intro i s hI h hi
      have hx : xs[i]? = some x := by
        have := congrArg (·[0]?) h
        simpa [List.getElem?_drop] using this
      have hr : xs.drop (i + 1) = r := by
        have := congrArg List.tail h
        simpa [List.tail_drop] using this
      have hl : i < xs.length := (List.getElem?_eq_some_iff.1 hx).1
      have hst := hs i s x hI hx
      unfold runK
      generalize step i s x = d at hst
      cases d with
      | inl s' => exact ih (i + 1) s' hst hr hl
      | inr d => exact hst
  exact key xs 0 s h0 (by simp) (Nat.zero_le _)

theorem CallOK.weaken {f : Nat} {args : List T} {oin : List Ob} {r r' : T} {oout : List Ob} (h : CallOK P f args oin r oout) (hw : WeakT r r') : CallOK P f args oin r' oout := by
  intro w own vals H hv
  refine (h w own vals H hv).mono ?_
  rintro e w' ⟨v, own', rfl, T, H', K, hr⟩
  exact ⟨v, own', rfl, T, H', K, weakT_rep hw hr⟩

theorem CallOK.weaken_args {f : Nat} {args args' : List T} {oin : List Ob} {r : T} {oout : List Ob} (h : CallOK P f args' oin r oout) (hw : WeakL WeakT args args') : CallOK P f args oin r oout := by
  intro w own vals H hv
  refine h w own vals H ?_
  clear h H
  induction hw generalizing vals with
  | nil => exact hv
  | cons h _ ih => cases hv with | cons h1 h2 => exact .cons (weakT_rep h h1) (ih _ h2)

end
end Go.Abs
