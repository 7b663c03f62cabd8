/- The types of this seat's program, as the machine asks for them. -/
import Derived.Test.YtflodniglbgkhaaD23
import Derived.Test.YtflodniglbgkhaaProg
set_option maxRecDepth 100000
set_option maxHeartbeats 4000000
set_option linter.unusedSimpArgs false
set_option linter.unusedVariables false
namespace Go.Proofs.Ytflodniglbgkhaa.AM
open Go.Proofs
def ti2 : TyI := ⟨.int .i64, 1, true, some (.int .i64 (0 : Int)), true⟩
theorem tyOk2 : TyOk Try.prog 2 ti2 := ⟨by kernel_rfl, by kernel_rfl, Try.underlying2, fun z h => by cases h; exact ⟨fun F => by kernel_rfl, fun F L => by simp [DV.Ok, DVs.Ok]⟩, fun _ _ => ⟨Try.t2, _, by kernel_rfl, rfl, by decide, rfl, rfl, by kernel_rfl, fun zd h F => by cases h; kernel_rfl⟩⟩
def ti3 : TyI := ⟨.int .i64, 1, true, some (.int .i64 (0 : Int)), true⟩
theorem tyOk3 : TyOk Try.prog 3 ti3 := ⟨by kernel_rfl, by kernel_rfl, Try.underlying3, fun z h => by cases h; exact ⟨fun F => by kernel_rfl, fun F L => by simp [DV.Ok, DVs.Ok]⟩, fun _ _ => ⟨Try.t3, _, by kernel_rfl, rfl, by decide, rfl, rfl, by kernel_rfl, fun zd h F => by cases h; kernel_rfl⟩⟩
def ti4 : TyI := ⟨.bool, 1, true, some (.lit false), true⟩
theorem tyOk4 : TyOk Try.prog 4 ti4 := ⟨by kernel_rfl, by kernel_rfl, Try.underlying4, fun z h => by cases h; exact ⟨fun F => by kernel_rfl, fun F L => by simp [DV.Ok, DVs.Ok]⟩, fun _ _ => ⟨Try.t4, _, by kernel_rfl, rfl, by decide, rfl, rfl, by kernel_rfl, fun zd h F => by cases h; kernel_rfl⟩⟩
def ti5 : TyI := ⟨.int .u8, 1, true, some (.int .u8 (0 : Int)), true⟩
theorem tyOk5 : TyOk Try.prog 5 ti5 := ⟨by kernel_rfl, by kernel_rfl, Try.underlying5, fun z h => by cases h; exact ⟨fun F => by kernel_rfl, fun F L => by simp [DV.Ok, DVs.Ok]⟩, fun _ _ => ⟨Try.t5, _, by kernel_rfl, rfl, by decide, rfl, rfl, by kernel_rfl, fun zd h F => by cases h; kernel_rfl⟩⟩
def ti9 : TyI := ⟨.str, 1, false, some (.str ByteArray.empty), false⟩
theorem tyOk9 : TyOk Try.prog 9 ti9 := ⟨by kernel_rfl, by kernel_rfl, Try.underlying9, fun z h => by cases h; exact ⟨fun F => by kernel_rfl, fun F L => by simp [DV.Ok, DVs.Ok]⟩, fun h => by cases h⟩
def ti12 : TyI := ⟨.int .u64, 1, true, some (.int .u64 (0 : Int)), true⟩
theorem tyOk12 : TyOk Try.prog 12 ti12 := ⟨by kernel_rfl, by kernel_rfl, Try.underlying12, fun z h => by cases h; exact ⟨fun F => by kernel_rfl, fun F L => by simp [DV.Ok, DVs.Ok]⟩, fun _ _ => ⟨Try.t12, _, by kernel_rfl, rfl, by decide, rfl, rfl, by kernel_rfl, fun zd h F => by cases h; kernel_rfl⟩⟩
def ti13 : TyI := ⟨.struct [(0, 9), (1, 12)], 2, false, some (.agg [.str ByteArray.empty, .int .u64 (0 : Int)]), false⟩
theorem tyOk13 : TyOk Try.prog 13 ti13 := ⟨by kernel_rfl, by kernel_rfl, ⟨⟨_, Try.underlying13, by kernel_rfl⟩, fun k q h => by
    rcases k with _ | _ | k
    · cases h; kernel_rfl
    · cases h; kernel_rfl
    · simp at h⟩, fun z h => by cases h; exact ⟨fun F => by kernel_rfl, fun F L => by simp [DV.Ok, DVs.Ok]⟩, fun h => by cases h⟩
def ti19 : TyI := ⟨.struct [(0, 17)], 1, false, some (.agg [.nilptr]), false⟩
theorem tyOk19 : TyOk Try.prog 19 ti19 := ⟨by kernel_rfl, by kernel_rfl, ⟨⟨_, Try.underlying19, by kernel_rfl⟩, fun k q h => by
    rcases k with _ | k
    · cases h; kernel_rfl
    · simp at h⟩, fun z h => by cases h; exact ⟨fun F => by kernel_rfl, fun F L => by simp [DV.Ok, DVs.Ok]⟩, fun h => by cases h⟩
def ti21 : TyI := ⟨.int .i32, 1, true, some (.int .i32 (0 : Int)), true⟩
theorem tyOk21 : TyOk Try.prog 21 ti21 := ⟨by kernel_rfl, by kernel_rfl, Try.underlying21, fun z h => by cases h; exact ⟨fun F => by kernel_rfl, fun F L => by simp [DV.Ok, DVs.Ok]⟩, fun _ _ => ⟨Try.t21, _, by kernel_rfl, rfl, by decide, rfl, rfl, by kernel_rfl, fun zd h F => by cases h; kernel_rfl⟩⟩
def ti22 : TyI := ⟨.slice 23, 1, false, some (.nilslc), false⟩
theorem tyOk22 : TyOk Try.prog 22 ti22 := ⟨by kernel_rfl, by kernel_rfl, Try.underlying22, fun z h => by cases h; exact ⟨fun F => by kernel_rfl, fun F L => by simp [DV.Ok, DVs.Ok]⟩, fun h => by cases h⟩
def ti23 : TyI := ⟨.flt .f32, 1, true, some (.flt .f32 (0 : Nat)), true⟩
theorem tyOk23 : TyOk Try.prog 23 ti23 := ⟨by kernel_rfl, by kernel_rfl, Try.underlying23, fun z h => by cases h; exact ⟨fun F => by kernel_rfl, fun F L => by simp [DV.Ok, DVs.Ok]⟩, fun _ _ => ⟨Try.t23, _, by kernel_rfl, rfl, by decide, rfl, rfl, by kernel_rfl, fun zd h F => by cases h; kernel_rfl⟩⟩
def ti29 : TyI := ⟨.flt .f64, 1, true, some (.flt .f64 (0 : Nat)), true⟩
theorem tyOk29 : TyOk Try.prog 29 ti29 := ⟨by kernel_rfl, by kernel_rfl, Try.underlying29, fun z h => by cases h; exact ⟨fun F => by kernel_rfl, fun F L => by simp [DV.Ok, DVs.Ok]⟩, fun _ _ => ⟨Try.t29, _, by kernel_rfl, rfl, by decide, rfl, rfl, by kernel_rfl, fun zd h F => by cases h; kernel_rfl⟩⟩
def ti32 : TyI := ⟨.struct [(0, 2), (1, 2), (2, 22)], 3, false, some (.agg [.int .i64 (0 : Int), .int .i64 (0 : Int), .nilslc]), false⟩
theorem tyOk32 : TyOk Try.prog 32 ti32 := ⟨by kernel_rfl, by kernel_rfl, ⟨⟨_, Try.underlying32, by kernel_rfl⟩, fun k q h => by
    rcases k with _ | _ | _ | k
    · cases h; kernel_rfl
    · cases h; kernel_rfl
    · cases h; kernel_rfl
    · simp at h⟩, fun z h => by cases h; exact ⟨fun F => by kernel_rfl, fun F L => by simp [DV.Ok, DVs.Ok]⟩, fun h => by cases h⟩
def ti33 : TyI := ⟨.struct [(0, 2), (1, 2), (2, 22)], 3, false, some (.agg [.int .i64 (0 : Int), .int .i64 (0 : Int), .nilslc]), false⟩
theorem tyOk33 : TyOk Try.prog 33 ti33 := ⟨by kernel_rfl, by kernel_rfl, ⟨⟨_, Try.underlying33, by kernel_rfl⟩, fun k q h => by
    rcases k with _ | _ | _ | k
    · cases h; kernel_rfl
    · cases h; kernel_rfl
    · cases h; kernel_rfl
    · simp at h⟩, fun z h => by cases h; exact ⟨fun F => by kernel_rfl, fun F L => by simp [DV.Ok, DVs.Ok]⟩, fun h => by cases h⟩
def ti35 : TyI := ⟨.struct [(0, 2), (1, 2), (2, 22)], 3, false, some (.agg [.int .i64 (0 : Int), .int .i64 (0 : Int), .nilslc]), false⟩
theorem tyOk35 : TyOk Try.prog 35 ti35 := ⟨by kernel_rfl, by kernel_rfl, ⟨⟨_, Try.underlying35, by kernel_rfl⟩, fun k q h => by
    rcases k with _ | _ | _ | k
    · cases h; kernel_rfl
    · cases h; kernel_rfl
    · cases h; kernel_rfl
    · simp at h⟩, fun z h => by cases h; exact ⟨fun F => by kernel_rfl, fun F L => by simp [DV.Ok, DVs.Ok]⟩, fun h => by cases h⟩
def ti42 : TyI := ⟨.slice 2, 1, false, some (.nilslc), false⟩
theorem tyOk42 : TyOk Try.prog 42 ti42 := ⟨by kernel_rfl, by kernel_rfl, Try.underlying42, fun z h => by cases h; exact ⟨fun F => by kernel_rfl, fun F L => by simp [DV.Ok, DVs.Ok]⟩, fun h => by cases h⟩
def ti43 : TyI := ⟨.struct [(0, 2), (1, 2), (2, 42)], 3, false, some (.agg [.int .i64 (0 : Int), .int .i64 (0 : Int), .nilslc]), false⟩
theorem tyOk43 : TyOk Try.prog 43 ti43 := ⟨by kernel_rfl, by kernel_rfl, ⟨⟨_, Try.underlying43, by kernel_rfl⟩, fun k q h => by
    rcases k with _ | _ | _ | k
    · cases h; kernel_rfl
    · cases h; kernel_rfl
    · cases h; kernel_rfl
    · simp at h⟩, fun z h => by cases h; exact ⟨fun F => by kernel_rfl, fun F L => by simp [DV.Ok, DVs.Ok]⟩, fun h => by cases h⟩
def ti44 : TyI := ⟨.struct [(0, 2), (1, 2), (2, 42)], 3, false, some (.agg [.int .i64 (0 : Int), .int .i64 (0 : Int), .nilslc]), false⟩
theorem tyOk44 : TyOk Try.prog 44 ti44 := ⟨by kernel_rfl, by kernel_rfl, ⟨⟨_, Try.underlying44, by kernel_rfl⟩, fun k q h => by
    rcases k with _ | _ | _ | k
    · cases h; kernel_rfl
    · cases h; kernel_rfl
    · cases h; kernel_rfl
    · simp at h⟩, fun z h => by cases h; exact ⟨fun F => by kernel_rfl, fun F L => by simp [DV.Ok, DVs.Ok]⟩, fun h => by cases h⟩
def ti46 : TyI := ⟨.struct [(0, 2), (1, 2), (2, 42)], 3, false, some (.agg [.int .i64 (0 : Int), .int .i64 (0 : Int), .nilslc]), false⟩
theorem tyOk46 : TyOk Try.prog 46 ti46 := ⟨by kernel_rfl, by kernel_rfl, ⟨⟨_, Try.underlying46, by kernel_rfl⟩, fun k q h => by
    rcases k with _ | _ | _ | k
    · cases h; kernel_rfl
    · cases h; kernel_rfl
    · cases h; kernel_rfl
    · simp at h⟩, fun z h => by cases h; exact ⟨fun F => by kernel_rfl, fun F L => by simp [DV.Ok, DVs.Ok]⟩, fun h => by cases h⟩
def ti64 : TyI := ⟨.other, 1, false, some (.nilptr), false⟩
theorem tyOk64 : TyOk Try.prog 64 ti64 := ⟨by kernel_rfl, by kernel_rfl, ⟨_, Try.underlying64, rfl⟩, fun z h => by cases h; exact ⟨fun F => by kernel_rfl, fun F L => by simp [DV.Ok, DVs.Ok]⟩, fun h => by cases h⟩
def ti65 : TyI := ⟨.struct [(0, 22), (1, 22), (2, 23)], 3, false, some (.agg [.nilslc, .nilslc, .flt .f32 (0 : Nat)]), false⟩
theorem tyOk65 : TyOk Try.prog 65 ti65 := ⟨by kernel_rfl, by kernel_rfl, ⟨⟨_, Try.underlying65, by kernel_rfl⟩, fun k q h => by
    rcases k with _ | _ | _ | k
    · cases h; kernel_rfl
    · cases h; kernel_rfl
    · cases h; kernel_rfl
    · simp at h⟩, fun z h => by cases h; exact ⟨fun F => by kernel_rfl, fun F L => by simp [DV.Ok, DVs.Ok]⟩, fun h => by cases h⟩
def ti66 : TyI := ⟨.struct [(0, 22), (1, 22), (2, 23)], 3, false, some (.agg [.nilslc, .nilslc, .flt .f32 (0 : Nat)]), false⟩
theorem tyOk66 : TyOk Try.prog 66 ti66 := ⟨by kernel_rfl, by kernel_rfl, ⟨⟨_, Try.underlying66, by kernel_rfl⟩, fun k q h => by
    rcases k with _ | _ | _ | k
    · cases h; kernel_rfl
    · cases h; kernel_rfl
    · cases h; kernel_rfl
    · simp at h⟩, fun z h => by cases h; exact ⟨fun F => by kernel_rfl, fun F L => by simp [DV.Ok, DVs.Ok]⟩, fun h => by cases h⟩
def ti70 : TyI := ⟨.other, 1, false, some (.nilptr), false⟩
theorem tyOk70 : TyOk Try.prog 70 ti70 := ⟨by kernel_rfl, by kernel_rfl, ⟨_, Try.underlying70, rfl⟩, fun z h => by cases h; exact ⟨fun F => by kernel_rfl, fun F L => by simp [DV.Ok, DVs.Ok]⟩, fun h => by cases h⟩
def ti81 : TyI := ⟨.other, 1, false, some (.nilptr), false⟩
theorem tyOk81 : TyOk Try.prog 81 ti81 := ⟨by kernel_rfl, by kernel_rfl, ⟨_, Try.underlying81, rfl⟩, fun z h => by cases h; exact ⟨fun F => by kernel_rfl, fun F L => by simp [DV.Ok, DVs.Ok]⟩, fun h => by cases h⟩
def ti91 : TyI := ⟨.struct [(0, 46), (3, 46)], 6, false, some (.agg [.int .i64 (0 : Int), .int .i64 (0 : Int), .nilslc, .int .i64 (0 : Int), .int .i64 (0 : Int), .nilslc]), false⟩
theorem tyOk91 : TyOk Try.prog 91 ti91 := ⟨by kernel_rfl, by kernel_rfl, ⟨⟨_, Try.underlying91, by kernel_rfl⟩, fun k q h => by
    rcases k with _ | _ | k
    · cases h; kernel_rfl
    · cases h; kernel_rfl
    · simp at h⟩, fun z h => by cases h; exact ⟨fun F => by kernel_rfl, fun F L => by simp [DV.Ok, DVs.Ok]⟩, fun h => by cases h⟩
def ti92 : TyI := ⟨.struct [(0, 46), (3, 46)], 6, false, some (.agg [.int .i64 (0 : Int), .int .i64 (0 : Int), .nilslc, .int .i64 (0 : Int), .int .i64 (0 : Int), .nilslc]), false⟩
theorem tyOk92 : TyOk Try.prog 92 ti92 := ⟨by kernel_rfl, by kernel_rfl, ⟨⟨_, Try.underlying92, by kernel_rfl⟩, fun k q h => by
    rcases k with _ | _ | k
    · cases h; kernel_rfl
    · cases h; kernel_rfl
    · simp at h⟩, fun z h => by cases h; exact ⟨fun F => by kernel_rfl, fun F L => by simp [DV.Ok, DVs.Ok]⟩, fun h => by cases h⟩
def ti155 : TyI := ⟨.int .u64, 1, true, some (.int .u64 (0 : Int)), true⟩
theorem tyOk155 : TyOk Try.prog 155 ti155 := ⟨by kernel_rfl, by kernel_rfl, Try.underlying155, fun z h => by cases h; exact ⟨fun F => by kernel_rfl, fun F L => by simp [DV.Ok, DVs.Ok]⟩, fun _ _ => ⟨Try.t155, _, by kernel_rfl, rfl, by decide, rfl, rfl, by kernel_rfl, fun zd h F => by cases h; kernel_rfl⟩⟩
def ti165 : TyI := ⟨.int .u32, 1, true, some (.int .u32 (0 : Int)), true⟩
theorem tyOk165 : TyOk Try.prog 165 ti165 := ⟨by kernel_rfl, by kernel_rfl, Try.underlying165, fun z h => by cases h; exact ⟨fun F => by kernel_rfl, fun F L => by simp [DV.Ok, DVs.Ok]⟩, fun _ _ => ⟨Try.t165, _, by kernel_rfl, rfl, by decide, rfl, rfl, by kernel_rfl, fun zd h F => by cases h; kernel_rfl⟩⟩
def ti169 : TyI := ⟨.other, 1, false, some (.nilptr), false⟩
theorem tyOk169 : TyOk Try.prog 169 ti169 := ⟨by kernel_rfl, by kernel_rfl, ⟨_, Try.underlying169, rfl⟩, fun z h => by cases h; exact ⟨fun F => by kernel_rfl, fun F L => by simp [DV.Ok, DVs.Ok]⟩, fun h => by cases h⟩
def TTl : List (Option TyI) := [none, none, some ti2, some ti3, some ti4, some ti5, none, none, none, some ti9, none, none, some ti12, some ti13, none, none, none, none, none, some ti19, none, some ti21, some ti22, some ti23, none, none, none, none, none, some ti29, none, none, some ti32, some ti33, none, some ti35, none, none, none, none, none, none, some ti42, some ti43, some ti44, none, some ti46, none, none, none, none, none, none, none, none, none, none, none, none, none, none, none, none, none, some ti64, some ti65, some ti66, none, none, none, some ti70, none, none, none, none, none, none, none, none, none, none, some ti81, none, none, none, none, none, none, none, none, none, some ti91, some ti92, none, none, none, none, none, none, none, none, none, none, none, none, none, none, none, none, none, none, none, none, none, none, none, none, none, none, none, none, none, none, none, none, none, none, none, none, none, none, none, none, none, none, none, none, none, none, none, none, none, none, none, none, none, none, none, none, none, none, none, none, none, none, some ti155, none, none, none, none, none, none, none, none, none, some ti165, none, none, none, some ti169, none, none, none, none, none, none]
def TT : TyT := lookT TTl
theorem tok : TOk Try.prog TT := tok_of (show AllTy Try.prog 0 TTl from ⟨tyOk2, tyOk3, tyOk4, tyOk5, tyOk9, tyOk12, tyOk13, tyOk19, tyOk21, tyOk22, tyOk23, tyOk29, tyOk32, tyOk33, tyOk35, tyOk42, tyOk43, tyOk44, tyOk46, tyOk64, tyOk65, tyOk66, tyOk70, tyOk81, tyOk91, tyOk92, tyOk155, tyOk165, tyOk169, trivial⟩)
theorem mixed : Try.prog.follows .mixedOrders = true := by kernel_rfl
end Go.Proofs.Ytflodniglbgkhaa.AM
