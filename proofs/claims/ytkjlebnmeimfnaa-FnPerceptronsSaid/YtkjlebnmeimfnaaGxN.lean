import Derived.Test.YtkjlebnmeimfnaaAbsPl
import Derived.Test.YtkjlebnmeimfnaaProg
namespace Go.Abs
open Go.Proofs

theorem mixed : Try.prog.follows .mixedOrders = true := by kernel_rfl
abbrev n_laws_vBig : Nat := 15
abbrev n_spec_l1Cur_next : Nat := 105
abbrev n_spec_l1Cur_pick : Nat := 86
abbrev n_spec_l1Cur_among : Nat := 87
abbrev n_spec_l1Cur_space : Nat := 83
abbrev n_spec_l1Least : Nat := 64
abbrev n_spec_l1Cur_plane : Nat := 102
abbrev n_spec_l1Cur_one : Nat := 74
abbrev n_spec_l1Cur_point : Nat := 103
abbrev n_spec_l1In : Nat := 90
abbrev n_spec_l2Numbers : Nat := 109
abbrev n_spec_l2Plane : Nat := 91
abbrev n_spec_l2Point : Nat := 108
abbrev n_spec_l2One : Nat := 104
abbrev n_spec_l2Dot : Nat := 110
abbrev n_spec_l2Side : Nat := 97
abbrev n_spec_l1Own : Nat := 99
abbrev n_spec_l1Cur_someSample : Nat := 82
abbrev n_spec_l1Cur_rounds3 : Nat := 84
abbrev n_spec_DrawRunPerceptron : Nat := 34
abbrev n_impl_within : Nat := 79
abbrev n_impl_allWithin : Nat := 65
abbrev n_impl_IsPoint : Nat := 106
abbrev n_impl_isLabel : Nat := 94
abbrev n_impl_IsSample : Nat := 88
abbrev n_impl_product : Nat := 111
abbrev n_impl_Plane_side : Nat := 98
abbrev n_impl_copied : Nat := 85
abbrev n_impl_Plane_step : Nat := 95
abbrev n_impl_IsPlane : Nat := 80
abbrev n_impl_runOf : Nat := 55
abbrev n_impl_RunPerceptron : Nat := 35
abbrev n_spec_l2Labels : Nat := 107
abbrev n_spec_l2Sample : Nat := 89
abbrev n_spec_l3Step : Nat := 96
abbrev n_spec_l3Made : Nat := 51
abbrev n_spec_RunPerceptron : Nat := 36
abbrev n_impl_PerceptronTrace : Nat := 37
abbrev n_spec_PerceptronTrace : Nat := 38
abbrev n_impl_DualCounts : Nat := 39
abbrev n_spec_DualCounts : Nat := 40
abbrev n_impl_Plane_mistakes : Nat := 56
abbrev n_impl_PocketPlane : Nat := 9
abbrev n_spec_l2Mistakes : Nat := 52
abbrev n_spec_PocketPlane : Nat := 7
abbrev n_laws_vCut : Nat := 22
abbrev n_spec_DrawPlaneOfCounts : Nat := 41
abbrev n_impl_PlaneOfCounts : Nat := 42
abbrev n_spec_PlaneOfCounts : Nat := 43
abbrev n_laws_vInts : Nat := 28
abbrev n_laws_vPlane : Nat := 44
abbrev n_laws_vAdd : Nat := 45
abbrev n_impl_suits : Nat := 92
abbrev n_impl_MistakesOf : Nat := 46
abbrev n_impl_FitsSample : Nat := 47
abbrev n_impl_meets : Nat := 93
abbrev n_impl_StepPerceptron : Nat := 48
abbrev n_laws_FnPerceptrons : Nat := 5

abbrev c_B (x : Bool) : List V := [.bool x]
abbrev c_Y (x : Int) : List V := [.int .u8 x]
abbrev c_I (x : Int) : List V := [.int .i64 x]
abbrev c_LI (x : (List Int)) : List V := [.arr 1 (x.map c_I)]
abbrev c_LLI (x : (List (List Int))) : List V := [.arr 1 (x.map c_LI)]
abbrev c_P2_LLI_LI (x : ((List (List Int)) × (List Int))) : List V := c_LLI x.1 ++ c_LI x.2
abbrev c_LY (x : (List Int)) : List V := [.arr 1 (x.map c_Y)]
abbrev c_U (x : Int) : List V := [.int .u64 x]
abbrev c_P3_LY_I_U (x : ((List Int) × Int × Int)) : List V := c_LY x.1 ++ c_I x.2.1 ++ c_U x.2.2
abbrev c_P2_LI_I (x : ((List Int) × Int)) : List V := c_LI x.1 ++ c_I x.2
abbrev c_LP2_LI_I (x : (List ((List Int) × Int))) : List V := [.arr 2 (x.map c_P2_LI_I)]
abbrev c_P3_LP2_LI_I_LI_LI (x : ((List ((List Int) × Int)) × (List Int) × (List Int))) : List V := c_LP2_LI_I x.1 ++ c_LI x.2.1 ++ c_LI x.2.2
end Go.Abs
