import Derived.Test.YtkjlebnmeimfnaaAbsEff
namespace Go.Abs

/-! an empty slice may be told as a list of nothing -/
inductive WeakV : V → V → Prop where
  | refl (v) : WeakV v v
  | nil (sz) : WeakV .nil (.arr sz [])
inductive WeakL {α : Type} (R : α → α → Prop) : List α → List α → Prop where
  | nil : WeakL R [] []
  | cons {a b l m} (h : R a b) (r : WeakL R l m) : WeakL R (a :: l) (b :: m)
inductive WeakT1 : T → T → Prop where
  | refl (t) : WeakT1 t t
  | one {v v'} (h : WeakV v v') : WeakT1 (.one v) (.one v')
  | agg {l l'} (h : WeakL WeakV l l') : WeakT1 (.agg l) (.agg l')
inductive WeakT : T → T → Prop where
  | refl (t) : WeakT t t
  | one {v v'} (h : WeakV v v') : WeakT (.one v) (.one v')
  | agg {l l'} (h : WeakL WeakV l l') : WeakT (.agg l) (.agg l')
  | tup {l l'} (h : WeakL WeakT1 l l') : WeakT (.tup l) (.tup l')

section
variable {w : World} {own : Nat → Own} {ob : Obs}
theorem weakV_rep {v v' : V} {u : Value} (h : WeakV v v') (hr : RepV w own ob v u) : RepV w own ob v' u := by
  cases h with
  | refl => exact hr
  | nil sz =>
    have hr : RepI w (frOf own) .nil u := hr
    cases hr
    exact RepI.arr (w := w) (fr := frOf own) sz [] none 0 (fun _ _ => undef) (by simp) (by simp) (by simp) (by simp) (by simp)
theorem weakL_rep {l l' : List V} {us : List Value} (h : WeakL WeakV l l') (hr : RepL (RepV w own ob) l us) : RepL (RepV w own ob) l' us := by
  induction h generalizing us with
  | nil => exact hr
  | cons h _ ih => cases hr with | cons h1 h2 => exact .cons (weakV_rep h h1) (ih h2)
theorem weakT1_rep {t t' : T} {u : Value} (h : WeakT1 t t') (hr : RepT1 (RepV w own ob) t u) : RepT1 (RepV w own ob) t' u := by
  cases h with
  | refl => exact hr
  | one h => exact weakV_rep h hr
  | agg h => obtain ⟨us, e, hr⟩ := hr; exact ⟨us, e, weakL_rep h hr⟩
theorem weakTs_rep {l l' : List T} {us : List Value} (h : WeakL WeakT1 l l') (hr : RepTs (RepV w own ob) l us) : RepTs (RepV w own ob) l' us := by
  induction h generalizing us with
  | nil => exact hr
  | cons h _ ih => cases hr with | cons h1 h2 => exact .cons (weakT1_rep h h1) (ih h2)
theorem weakT_rep {t t' : T} {u : Value} (h : WeakT t t') (hr : RepT (RepV w own ob) t u) : RepT (RepV w own ob) t' u := by
  cases h with
  | refl => exact hr
  | one h => exact weakV_rep h hr
  | agg h => obtain ⟨us, e, hr⟩ := hr; exact ⟨us, e, weakL_rep h hr⟩
  | tup h => obtain ⟨us, e, hr⟩ := hr; exact ⟨us, e, weakTs_rep h hr⟩
end


theorem wkV_weak (x y : V) : WeakV x (wkV x y) := by
  unfold wkV
  split
  · split
    · exact .nil _
    · exact .refl _
  · exact .refl _
theorem wkL_weak : ∀ l m : List V, WeakL WeakV l (wkL l m)
  | [], m => by cases m <;> exact .nil
  | x :: l, [] => by
    show WeakL WeakV (x :: l) (x :: l)
    have : ∀ l : List V, WeakL WeakV l l := fun l => by induction l with | nil => exact .nil | cons x l ih => exact .cons (.refl _) ih
    exact this _
  | x :: l, y :: m => .cons (wkV_weak x y) (wkL_weak l m)
theorem wkT1_weak (x y : T) : WeakT1 x (wkT1 x y) := by
  unfold wkT1
  split
  · exact .one (wkV_weak _ _)
  · exact .agg (wkL_weak _ _)
  · exact .refl _
theorem wkTs_weak : ∀ l m : List T, WeakL WeakT1 l (wkTs l m)
  | [], m => by cases m <;> exact .nil
  | x :: l, [] => by
    show WeakL WeakT1 (x :: l) (x :: l)
    have : ∀ l : List T, WeakL WeakT1 l l := fun l => by induction l with | nil => exact .nil | cons x l ih => exact .cons (.refl _) ih
    exact this _
  | x :: l, y :: m => .cons (wkT1_weak x y) (wkTs_weak l m)
theorem wkT_weak (x y : T) : WeakT x (wkT x y) := by
  unfold wkT
  split
  · exact .one (wkV_weak _ _)
  · exact .agg (wkL_weak _ _)
  · exact .tup (wkTs_weak _ _)
  · exact .refl _


end Go.Abs
