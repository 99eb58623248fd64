import Derived.Test.YtkjlebnmeimfnaaAbsPl
import Derived.Below
namespace Go.Abs
open Go.RowKit

/-- A row of whole numbers in memory. -/
def IsRow (k : IntKind) (w : World) (a : Option Addr) (len cap : Nat) (zs : List Int) : Prop :=
  (a = none ∧ len = 0 ∧ cap = 0 ∧ zs = []) ∨
  ∃ x, a = some x ∧ len ≤ cap ∧ cap ≤ maxLen ∧ zs.length = cap ∧ (∀ i, i < zs.length → w.cell? (x.add i) = some (.int k (zs.getD i 0))) ∧ ∀ n ∈ zs, (Lit.int k n).wf = true

theorem row_rep {k : IntKind} {w : World} {a : Option Addr} {len cap : Nat} {zs : List Int} (h : IsRow k w a len cap zs) :
    RepI w (frOf fun _ => .free) (.arr 1 ((zs.take len).map fun x => [V.int k x])) (.slice a len cap) := by
  rcases h with ⟨rfl, rfl, rfl, rfl⟩ | ⟨x, rfl, hl, hm, hz, hc, hw⟩
  · exact RepI.arr (w := w) (fr := frOf fun _ => .free) 1 [] none 0 (fun _ _ => undef) (by simp) (by simp) (by simp) (by simp) (by simp)
  · have hlen : ((zs.take len).map fun x => [V.int k x]).length = len := by
      rw [List.length_map, List.length_take, hz]
      omega
    have := RepI.arr (w := w) (fr := frOf fun _ => .free) 1 ((zs.take len).map fun x => [V.int k x]) (some x) cap (fun i _ => .int k (zs.getD i 0))
      (by rw [hlen]; exact Nat.le_trans hl hm) (by rw [hlen]; exact hl) (fun e he => by obtain ⟨n, _, rfl⟩ := List.mem_map.1 he; rfl)
      (fun i e j y hi hj => ?_) (fun _ => ⟨x, rfl, fun i e j y hi hj => ?_⟩)
    · rw [hlen] at this
      exact this
    all_goals
      rw [List.getElem?_map] at hi
      obtain ⟨n, h1, h2⟩ := Option.map_eq_some_iff.1 hi
      subst h2
      obtain ⟨hlt, hn⟩ := List.getElem?_eq_some_iff.1 h1
      have hlt' : i < zs.length := by
        rw [List.length_take] at hlt
        omega
      have hg : zs.getD i 0 = n := by
        rw [List.getElem_take] at hn
        rw [List.getD_eq_getElem?_getD, List.getElem?_eq_getElem hlt', Option.getD_some]
        exact hn
      have hj0 : j = 0 := by
        cases j with
        | zero => rfl
        | succ j => simp at hj
      subst hj0
      have hy : y = V.int k n := by simpa using hj.symm
      subst hy
    · rw [hg]; exact .int k n
    · refine ⟨rfl, ?_⟩
      rw [show i * 1 + 0 = i by omega]
      exact hc i hlt'

theorem row_wf {k : IntKind} {w : World} {a : Option Addr} {len cap : Nat} {zs : List Int} (h : IsRow k w a len cap zs) : ∀ n ∈ zs, (Lit.int k n).wf = true := by
  rcases h with ⟨rfl, rfl, rfl, rfl⟩ | ⟨x, rfl, hl, hm, hz, hc, hw⟩
  · simp
  · exact hw

theorem row_calls {P : Program} {f : Nat} {k : IntKind} {w : World} {a : Option Addr} {len cap : Nat} {zs : List Int} (h : IsRow k w a len cap zs)
    (H : CallOK P f [T.one (V.arr 1 ((zs.take len).map fun x => [V.int k x]))] [] (T.one (V.bool true)) []) :
    Calls P f #[.slice a len cap] w fun e w' => e = .returned (.bool true) ∧ Below w.heap.size w w' := by
  refine (H w (fun _ => .free) [.slice a len cap] ⟨fun s v c hc => by simp [enumFrom, lk] at hc, fun _ _ => rfl⟩ (.cons (row_rep h) .nil)).mono ?_
  rintro e w' ⟨v, own', rfl, T, H', K, hr⟩
  have hv : v = .bool true := rep_bool (obl := enumFrom 1000 []) hr
  subst hv
  exact ⟨rfl, K.os, K.tape, K.output, K.size, fun b hb => K.old b hb (.inl rfl)⟩

end Go.Abs
