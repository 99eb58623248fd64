import Derived.Test.YtkjlebnmeimfnaaAbsSc
namespace Go.Abs

abbrev w8 (n : Int) : Int := IntKind.u8.wrap n
abbrev w32 (n : Int) : Int := IntKind.i32.wrap n
abbrev wu64 (n : Int) : Int := IntKind.u64.wrap n
/-- the length of a list, as the machine tells it -/
def ln {α : Type} (c : α → List V) (xs : List α) : Int := ((List.map c xs).length : Int)
theorem ln_eq {α : Type} (c : α → List V) (xs : List α) : ln c xs = xs.length := by simp [ln]
def slen (s : ByteArray) : Int := (s.size : Int)
def sat (s : ByteArray) (i : Int) : Int := ((s.data.toList.getD i.toNat 0).toNat : Int)
def sEq (a b : ByteArray) : Bool := a.toList == b.toList
def sNe (a b : ByteArray) : Bool := !(a.toList == b.toList)
def sLt (a b : ByteArray) : Bool := Op.bytesLess a.toList b.toList
def bts (l : List UInt8) : ByteArray := ⟨l.toArray⟩
def iAnd (k : IntKind) (a b : Int) : Int := k.wrap ((BitVec.ofInt k.bits a &&& BitVec.ofInt k.bits b).toNat : Int)
def iOr (k : IntKind) (a b : Int) : Int := k.wrap ((BitVec.ofInt k.bits a ||| BitVec.ofInt k.bits b).toNat : Int)
def iXor (k : IntKind) (a b : Int) : Int := k.wrap ((BitVec.ofInt k.bits a ^^^ BitVec.ofInt k.bits b).toNat : Int)
def iShl (k : IntKind) (a b : Int) : Int := k.wrap (a * 2 ^ (min b.toNat k.bits))
def iShr (k : IntKind) (a b : Int) : Int := a.fdiv (2 ^ (min b.toNat k.bits))
def getI {α : Type} (xs : List α) (i : Int) : Option α := if 0 ≤ i then xs[i.toNat]? else none

/-- a piece of a function's code, by the way to it -/
def codeAt : Code → List Nat → Code
  | c, [] => c
  | .seq a b, i :: r => match i with | 0 => codeAt a r | _ => codeAt b r
  | .cond _ a b, i :: r => match i with | 0 => codeAt a r | _ => codeAt b r
  | .block _ a, _ :: r => codeAt a r
  | .loop a, _ :: r => codeAt a r
  | _, _ :: _ => .skip
def codeOf (P : Program) (f : Nat) (p : List Nat) : Code :=
  match P.funcs[f]? with
  | some fn => match fn.body with
    | some c => codeAt c p
    | none => .skip
  | none => .skip

variable {P : Program} {R : Type}

theorem all1 {p : Prop} (h : p) : ∀ q ∈ [p], q := fun q hq => by rw [List.mem_singleton.1 hq]; exact h
theorem allC {p : Prop} {l : List Prop} (h : p) (hl : ∀ q ∈ l, q) : ∀ q ∈ p :: l, q := fun q hq => by
  rcases List.mem_cons.1 hq with rfl | hq
  · exact h
  · exact hl q hq
theorem all2 {p q : Prop} (h : p) (h' : q) : ∀ r ∈ [p, q], r := allC h (all1 h')
theorem all3 {p q r : Prop} (h : p) (h' : q) (h'' : r) : ∀ s ∈ [p, q, r], s := allC h (all2 h' h'')
theorem all4 {p q r t : Prop} (h : p) (h' : q) (h'' : r) (h3 : t) : ∀ s ∈ [p, q, r, t], s := allC h (all3 h' h'' h3)
theorem guard_some {p : Prop} [Decidable p] {x : Unit} (h : (if p then some () else none) = some x) : p := by
  by_cases hp : p
  · exact hp
  · simp [hp] at h

def chs (n : Nat) (ch : Ch) (k : Sc P R) : Sc P R := .op (some ()) (fun _ => [(n, ch)]) (fun _ => []) (fun _ _ _ h => by cases h) (fun _ => k)
def need (p : Prop) [Decidable p] (k : Sc P R) : Sc P R := .op (if p then some () else none) (fun _ => []) (fun _ => [p]) (fun _ h => all1 (guard_some h)) (fun _ => k)

theorem getI_some {α : Type} {xs : List α} {i : Int} {x : α} (h : getI xs i = some x) : 0 ≤ i ∧ xs[i.toNat]? = some x := by
  unfold getI at h
  split at h
  · exact ⟨by assumption, h⟩
  · cases h
theorem get_map {α : Type} {c : α → List V} {xs : List α} {i : Nat} {x : α} (h : xs[i]? = some x) : (List.map c xs)[i]? = some (c x) := by simp [h]

def get {α : Type} (n : Nat) (c : α → List V) (xs : List α) (i : Int) (k : α → Sc P R) : Sc P R :=
  .op (getI xs i) (fun x => [(n, .el (c x))]) (fun x => [0 ≤ i, (List.map c xs)[i.toNat]? = some (c x)]) (fun _ h => all2 (getI_some h).1 (get_map (getI_some h).2)) k
def ld {α : Type} (n : Nat) (c : α → List V) (xs : List α) (i : Nat) (k : α → Sc P R) : Sc P R :=
  .op (xs[i]?) (fun x => [(n, .el (c x))]) (fun x => [(List.map c xs)[i]? = some (c x)]) (fun _ h => all1 (get_map h)) k
def idx {α : Type} (c : α → List V) (xs : List α) (i : Int) (k : Sc P R) : Sc P R :=
  .op (if 0 ≤ i ∧ i < (xs.length : Int) then some () else none) (fun _ => []) (fun _ => [0 ≤ i, i < ((List.map c xs).length : Int)]) (fun _ h => all2 (guard_some h).1 (by simpa using (guard_some h).2)) (fun _ => k)
def idxS (s : ByteArray) (i : Int) (k : Sc P R) : Sc P R :=
  .op (if 0 ≤ i ∧ i < (s.size : Int) then some () else none) (fun _ => []) (fun _ => [0 ≤ i, i < (s.size : Int)]) (fun _ h => all2 (guard_some h).1 (guard_some h).2) (fun _ => k)
def upd {α : Type} (n : Nat) (c : α → List V) (xs : List α) (i : Nat) (f : α → α) (k : α → Sc P R) : Sc P R :=
  .op (xs[i]?) (fun x => [(n, .re (.el (c x)) (List.map c (xs.set i (f x))))]) (fun x => [(List.map c xs)[i]? = some (c x), (List.map c xs).set i (c (f x)) = List.map c (xs.set i (f x))])
    (fun _ h => all2 (get_map h) (by rw [List.map_set])) k
def app {α : Type} (n : Nat) (c : α → List V) (b : Nat) (xs ys : List α) (k : Sc P R) : Sc P R :=
  .op (if (xs.length + ys.length) * b ≤ 140737488355328 then some () else none) (fun _ => [(n, .re .std (List.map c (xs ++ ys)))])
    (fun _ => [((List.map c xs).length + (List.map c ys).length) * b ≤ 140737488355328, List.map c xs ++ List.map c ys = List.map c (xs ++ ys)])
    (fun _ h => all2 (by simpa using guard_some h) (by rw [List.map_append])) (fun _ => k)
def mk {α : Type} (n : Nat) (c : α → List V) (b : Nat) (l : Int) (z : α) (k : Sc P R) : Sc P R :=
  .op (if 0 ≤ l ∧ l * b ≤ 140737488355328 then some () else none) (fun _ => [(n, .re .std (List.map c (List.replicate l.toNat z)))])
    (fun _ => [0 ≤ l, l * b ≤ 140737488355328, l = l, List.replicate l.toNat (c z) = List.map c (List.replicate l.toNat z)])
    (fun _ h => all4 (guard_some h).1 (guard_some h).2 rfl (by rw [List.map_replicate])) (fun _ => k)
def slc {α : Type} (n : Nat) (c : α → List V) (xs : List α) (l h : Int) (k : Sc P R) : Sc P R :=
  .op (if 0 ≤ l ∧ l ≤ h ∧ h ≤ (xs.length : Int) then some () else none) (fun _ => [(n, .re .std (List.map c (List.drop l.toNat (List.take h.toNat xs))))])
    (fun _ => [0 ≤ l, l ≤ h, h ≤ ((List.map c xs).length : Int), List.drop l.toNat (List.take h.toNat (List.map c xs)) = List.map c (List.drop l.toNat (List.take h.toNat xs))])
    (fun _ hh => all4 (guard_some hh).1 (guard_some hh).2.1 (by simpa using (guard_some hh).2.2) (by rw [List.map_drop, List.map_take])) (fun _ => k)
def slcS (s : ByteArray) (l h : Int) (k : Sc P R) : Sc P R :=
  .op (if 0 ≤ l ∧ l ≤ h ∧ h ≤ (s.size : Int) then some () else none) (fun _ => []) (fun _ => [0 ≤ l, l ≤ h, h ≤ (s.size : Int)])
    (fun _ hh => all3 (guard_some hh).1 (guard_some hh).2.1 (guard_some hh).2.2) (fun _ => k)
def call {X : Type} {m : Option X} {f : Nat} {args : List T} {oin : List Ob} {r : X → T} {oout : X → List Ob} (n : Nat) (h : ∀ x, m = some x → CallOK P f args oin (r x) (oout x)) (frz bor pass adopt : List Nat) (k : X → Sc P R) : Sc P R :=
  .op m (fun x => [(n, .call frz bor pass (r x) (oout x) adopt)]) (fun x => [CallOK P f args oin (r x) (oout x)]) (fun x hx => all1 (h x hx)) k
def lp {X : Type} {m : Option X} {c : Code} {st : St} {G : X → AExit × St} (ok : ∀ x, m = some x → ExecOK P c st (G x).1 (G x).2) (slots sites : List Nat) (k : X → Sc P R) : Sc P R :=
  .sub m c slots sites st G ok k
def lp2 {X Y : Type} {m : Option (X ⊕ Y)} {c : Code} {st : St} {G : X ⊕ Y → AExit × St} (ok : ∀ x, m = some x → ExecOK P c st (G x).1 (G x).2) (slots sites : List Nat) (k1 : X → Sc P R) (k2 : Y → Sc P R) : Sc P R :=
  .sub2 m c slots sites st G ok k1 k2
def lp3 {X Y Z : Type} {m : Option (X ⊕ Y ⊕ Z)} {c : Code} {st : St} {G : X ⊕ Y ⊕ Z → AExit × St} (ok : ∀ x, m = some x → ExecOK P c st (G x).1 (G x).2) (slots sites : List Nat) (k1 : X → Sc P R) (k2 : Y → Sc P R) (k3 : Z → Sc P R) : Sc P R :=
  .sub3 m c slots sites st G ok k1 k2 k3

/-! what they compute -/
section
@[simp] theorem den_ret {l m : List Nat} {r : R} : den (.ret l m r : Sc P R) = some r := rfl
@[simp] theorem den_br {i : Nat} {v : Bool} {a b : Sc P R} : den (.br i v a b) = if v then den a else den b := by cases v <;> rfl
@[simp] theorem den_brc {v : Bool} {a b : Sc P R} : den (.brc v a b) = if v then den a else den b := by cases v <;> rfl
@[simp] theorem den_brk {v : Bool} {k : Sc P R} : den (.brk v k) = den k := rfl
@[simp] theorem den_go {k : Sc P R} : den (.go k) = den k := rfl
@[simp] theorem den_frz {ss : List Nat} {k : Sc P R} : den (.frz ss k) = den k := rfl
@[simp] theorem den_at {n : Nat} {k : Sc P R} : den (.at_ n k) = den k := rfl
@[simp] theorem den_chs {n : Nat} {ch : Ch} {k : Sc P R} : den (chs n ch k) = den k := rfl
@[simp] theorem den_need {p : Prop} [Decidable p] {k : Sc P R} : den (need p k) = if p then den k else none := by by_cases h : p <;> simp [need, den, h]
@[simp] theorem den_get {α : Type} {n : Nat} {c : α → List V} {xs : List α} {i : Int} {k : α → Sc P R} : den (get n c xs i k) = (getI xs i).bind fun x => den (k x) := rfl
@[simp] theorem den_ld {α : Type} {n : Nat} {c : α → List V} {xs : List α} {i : Nat} {k : α → Sc P R} : den (ld n c xs i k) = (xs[i]?).bind fun x => den (k x) := rfl
@[simp] theorem den_idx {α : Type} {c : α → List V} {xs : List α} {i : Int} {k : Sc P R} : den (idx c xs i k) = if 0 ≤ i ∧ i < (xs.length : Int) then den k else none := by by_cases h : 0 ≤ i ∧ i < (xs.length : Int) <;> simp [idx, den, h]
@[simp] theorem den_idxS {s : ByteArray} {i : Int} {k : Sc P R} : den (idxS s i k) = if 0 ≤ i ∧ i < (s.size : Int) then den k else none := by by_cases h : 0 ≤ i ∧ i < (s.size : Int) <;> simp [idxS, den, h]
@[simp] theorem den_upd {α : Type} {n : Nat} {c : α → List V} {xs : List α} {i : Nat} {f : α → α} {k : α → Sc P R} : den (upd n c xs i f k) = (xs[i]?).bind fun x => den (k x) := rfl
@[simp] theorem den_app {α : Type} {n : Nat} {c : α → List V} {b : Nat} {xs ys : List α} {k : Sc P R} : den (app n c b xs ys k) = if (xs.length + ys.length) * b ≤ 140737488355328 then den k else none := by
  by_cases h : (xs.length + ys.length) * b ≤ 140737488355328 <;> simp [app, den, h]
@[simp] theorem den_mk {α : Type} {n : Nat} {c : α → List V} {b : Nat} {l : Int} {z : α} {k : Sc P R} : den (mk n c b l z k) = if 0 ≤ l ∧ l * b ≤ 140737488355328 then den k else none := by
  by_cases h : 0 ≤ l ∧ l * b ≤ 140737488355328 <;> simp [mk, den, h]
@[simp] theorem den_slc {α : Type} {n : Nat} {c : α → List V} {xs : List α} {l h : Int} {k : Sc P R} : den (slc n c xs l h k) = if 0 ≤ l ∧ l ≤ h ∧ h ≤ (xs.length : Int) then den k else none := by
  by_cases hh : 0 ≤ l ∧ l ≤ h ∧ h ≤ (xs.length : Int) <;> simp [slc, den, hh]
@[simp] theorem den_slcS {s : ByteArray} {l h : Int} {k : Sc P R} : den (slcS s l h k) = if 0 ≤ l ∧ l ≤ h ∧ h ≤ (s.size : Int) then den k else none := by
  by_cases hh : 0 ≤ l ∧ l ≤ h ∧ h ≤ (s.size : Int) <;> simp [slcS, den, hh]
@[simp] theorem den_call {X : Type} {m : Option X} {f : Nat} {args : List T} {oin : List Ob} {r : X → T} {oout : X → List Ob} {n : Nat} {h : ∀ x, m = some x → CallOK P f args oin (r x) (oout x)} {frz bor pass adopt : List Nat} {k : X → Sc P R} :
    den (call n h frz bor pass adopt k) = m.bind fun x => den (k x) := rfl
@[simp] theorem den_lp {X : Type} {m : Option X} {c : Code} {st : St} {G : X → AExit × St} {ok : ∀ x, m = some x → ExecOK P c st (G x).1 (G x).2} {slots sites : List Nat} {k : X → Sc P R} :
    den (lp ok slots sites k) = m.bind fun x => den (k x) := rfl
@[simp] theorem den_lp2 {X Y : Type} {m : Option (X ⊕ Y)} {c : Code} {st : St} {G : X ⊕ Y → AExit × St} {ok : ∀ x, m = some x → ExecOK P c st (G x).1 (G x).2} {slots sites : List Nat} {k1 : X → Sc P R} {k2 : Y → Sc P R} :
    den (lp2 ok slots sites k1 k2) = m.bind fun x => x.elim (fun x => den (k1 x)) (fun x => den (k2 x)) := by
  unfold lp2
  rw [den]
  congr
  funext x
  cases x <;> rfl
@[simp] theorem den_lp3 {X Y Z : Type} {m : Option (X ⊕ Y ⊕ Z)} {c : Code} {st : St} {G : X ⊕ Y ⊕ Z → AExit × St} {ok : ∀ x, m = some x → ExecOK P c st (G x).1 (G x).2} {slots sites : List Nat} {k1 : X → Sc P R} {k2 : Y → Sc P R} {k3 : Z → Sc P R} :
    den (lp3 ok slots sites k1 k2 k3) = m.bind fun x => x.elim (fun x => den (k1 x)) (fun x => x.elim (fun x => den (k2 x)) (fun x => den (k3 x))) := by
  unfold lp3
  rw [den]
  congr
  funext x
  rcases x with x | x | x <;> rfl
end

end Go.Abs
