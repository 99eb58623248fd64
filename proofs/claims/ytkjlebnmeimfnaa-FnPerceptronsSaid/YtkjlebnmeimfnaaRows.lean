/-
  No cell of these rows narrows 'for every input' (looked for: loops, veiled, ifaces, maps, wideKeys, modest, calm, conditions, laid).
  DERIVED. THE GIVEN ROWS OF THIS SEAT. 3 by the template 'for every input the law returns true; each argument reads behind the call as it read before'; 0 by the template 'total and deterministic' (their statements: YtkjlebnmeimfnaaTotals.lean).
  GIVEN WITH THE SEED: the statements are not yours to turn. If you find one false, say at which input.
  Laid BY PROGRAM, IN A SANDBOX (cutbox-rows.mjs): the forced cells as the released guide's own fill.sh prints them over the translation 8946e621dc421be4… (all of the seat's roots in one cut). By AI agents, Wed Nov 11 2026. No macro, syntax, notation, axiom, sorry.
-/
import Derived.Test.YtkjlebnmeimfnaaChecked
import GoSem.Claim
import GoSem.ClaimJoined
import GoSem.ClaimMapViews
import Derived.JoinedTies
import Derived.KernelRfl
namespace Go.Proofs.Ytkjlebnmeimfnaa
/- THE CELL 'sum', in the pinned program and in every row, IS THE sha256 OF THE DUMP (.gsa) THAT YtkjlebnmeimfnaaProg.lean LOADS. Nothing in Lean hashes anything: it is a label: what it is worth is what the hold of that sum in a sandbox is worth. -/
noncomputable def Try.pinned : Pinned := { name := "ytkjlebnmeimfnaa", sum := "8946e621dc421be493314ff4cb8dd4f3c9144aae99324f736e90a402438dd05a", checked := Try.checked }
namespace Rows
def none {H : Type} : Left H := { results := [], args := [] }

/-- 'laws.FnExactPocketPlane': WHATEVER THE INPUT: true; the input reads as it did. -/
def fnExactPocketPlaneSpec : ChangeSpec := { name := "fnExactPocketPlane", fn := fun _ => fun
  | [d1, d2] => { results := [.lit (.bool true)], args := [d1, d2] }
  | _ => none }
def fnExactPocketPlaneRow : OpenClaim := { program := "ytkjlebnmeimfnaa", sum := "8946e621dc421be493314ff4cb8dd4f3c9144aae99324f736e90a402438dd05a", func := "loop.example/g01135/laws.FnExactPocketPlane", spec := "fnExactPocketPlane", apart := false }
def FnExactPocketPlaneSaid : Prop := fnExactPocketPlaneRow.holds Try.pinned (OpenSpec.ofChange fnExactPocketPlaneSpec)

/-- ITS FALSE NEIGHBOUR: 'it returns false'. Refute it at one input. -/
def fnExactPocketPlaneWrong : ChangeSpec := { name := "fnExactPocketPlane", fn := fun _ => fun
  | [d1, d2] => { results := [.lit (.bool false)], args := [d1, d2] }
  | _ => none }
def FnExactPocketPlaneWrongFalsely : Prop := fnExactPocketPlaneRow.holds Try.pinned (OpenSpec.ofChange fnExactPocketPlaneWrong)

/-- 'laws.FnNets': WHATEVER THE INPUT: true; the input reads as it did. -/
def fnNetsSpec : ChangeSpec := { name := "fnNets", fn := fun _ => fun
  | [d] => { results := [.lit (.bool true)], args := [d] }
  | _ => none }
def fnNetsRow : OpenClaim := { program := "ytkjlebnmeimfnaa", sum := "8946e621dc421be493314ff4cb8dd4f3c9144aae99324f736e90a402438dd05a", func := "loop.example/g01135/laws.FnNets", spec := "fnNets", apart := false }
def FnNetsSaid : Prop := fnNetsRow.holds Try.pinned (OpenSpec.ofChange fnNetsSpec)

/-- ITS FALSE NEIGHBOUR: 'it returns false'. Refute it at one input. -/
def fnNetsWrong : ChangeSpec := { name := "fnNets", fn := fun _ => fun
  | [d] => { results := [.lit (.bool false)], args := [d] }
  | _ => none }
def FnNetsWrongFalsely : Prop := fnNetsRow.holds Try.pinned (OpenSpec.ofChange fnNetsWrong)

/-- 'laws.FnPerceptrons': WHATEVER THE INPUT: true; the input reads as it did. -/
def fnPerceptronsSpec : ChangeSpec := { name := "fnPerceptrons", fn := fun _ => fun
  | [d] => { results := [.lit (.bool true)], args := [d] }
  | _ => none }
def fnPerceptronsRow : OpenClaim := { program := "ytkjlebnmeimfnaa", sum := "8946e621dc421be493314ff4cb8dd4f3c9144aae99324f736e90a402438dd05a", func := "loop.example/g01135/laws.FnPerceptrons", spec := "fnPerceptrons", apart := false }
def FnPerceptronsSaid : Prop := fnPerceptronsRow.holds Try.pinned (OpenSpec.ofChange fnPerceptronsSpec)

/-- ITS FALSE NEIGHBOUR: 'it returns false'. Refute it at one input. -/
def fnPerceptronsWrong : ChangeSpec := { name := "fnPerceptrons", fn := fun _ => fun
  | [d] => { results := [.lit (.bool false)], args := [d] }
  | _ => none }
def FnPerceptronsWrongFalsely : Prop := fnPerceptronsRow.holds Try.pinned (OpenSpec.ofChange fnPerceptronsWrong)

/- THE SECOND FORM. 'bulk': how many values and letters a reading holds, each counted each time it is reached (what is shared counts as often as it is met; a slice's spare places count too). A statement '..UptoSaid' is the law's where the arguments, and the package variables that the reading takes, are together of bulk at most 1048576: NARROWER than '..Said'. Prove '..Said' where nothing that the law and all that it calls make is longer than what came in: it says more and counts as full. Else prove '..UptoSaid'. A law counts once. -/
mutual
def uptoBulk {H : Type} : DataW H → Nat
  | .lit (.string bytes) => bytes.length + 1
  | .lit _ => 1
  | .nil => 1
  | .ptr d => uptoBulk d + 1
  | .slice elems spare => uptoBulkAll elems + uptoBulkAll spare + 1
  | .agg parts => uptoBulkAll parts + 1
  | .iface _ d => uptoBulk d + 1
  | .map entries => uptoBulkEntries entries + 1
  | .held _ => 1
def uptoBulkAll {H : Type} : List (DataW H) → Nat
  | [] => 0
  | d :: r => uptoBulk d + uptoBulkAll r
def uptoBulkEntries {H : Type} : List (Lit × DataW H) → Nat
  | [] => 0
  | x :: r => uptoBulkEntry x + uptoBulkEntries r
def uptoBulkEntry {H : Type} : Lit × DataW H → Nat
  | (.string bytes, d) => bytes.length + uptoBulk d + 1
  | (_, d) => uptoBulk d + 1
 end
def uptoSmall : (H : Type) → List (DataW H) → Bool := fun _ ds => decide (uptoBulkAll ds ≤ 1048576)
def OpenSpec.upto (s : _root_.Go.ChangeSpec) : _root_.Go.OpenSpec := { _root_.Go.OpenSpec.ofChange s with cond := some uptoSmall }

/-- 'laws.FnExactPocketPlane', WHERE WHAT IT READS IS OF BULK AT MOST 1048576: true; the input reads as it did. -/
def fnExactPocketPlaneUptoRow : OpenClaim := { program := "ytkjlebnmeimfnaa", sum := "8946e621dc421be493314ff4cb8dd4f3c9144aae99324f736e90a402438dd05a", func := "loop.example/g01135/laws.FnExactPocketPlane", spec := "fnExactPocketPlane", apart := false, narrowed := true }
def FnExactPocketPlaneUptoSaid : Prop := fnExactPocketPlaneUptoRow.holds Try.pinned (OpenSpec.upto fnExactPocketPlaneSpec)

/-- 'laws.FnNets', WHERE WHAT IT READS IS OF BULK AT MOST 1048576: true; the input reads as it did. -/
def fnNetsUptoRow : OpenClaim := { program := "ytkjlebnmeimfnaa", sum := "8946e621dc421be493314ff4cb8dd4f3c9144aae99324f736e90a402438dd05a", func := "loop.example/g01135/laws.FnNets", spec := "fnNets", apart := false, narrowed := true }
def FnNetsUptoSaid : Prop := fnNetsUptoRow.holds Try.pinned (OpenSpec.upto fnNetsSpec)

/-- 'laws.FnPerceptrons', WHERE WHAT IT READS IS OF BULK AT MOST 1048576: true; the input reads as it did. -/
def fnPerceptronsUptoRow : OpenClaim := { program := "ytkjlebnmeimfnaa", sum := "8946e621dc421be493314ff4cb8dd4f3c9144aae99324f736e90a402438dd05a", func := "loop.example/g01135/laws.FnPerceptrons", spec := "fnPerceptrons", apart := false, narrowed := true }
def FnPerceptronsUptoSaid : Prop := fnPerceptronsUptoRow.holds Try.pinned (OpenSpec.upto fnPerceptronsSpec)

end Rows
end Go.Proofs.Ytkjlebnmeimfnaa
