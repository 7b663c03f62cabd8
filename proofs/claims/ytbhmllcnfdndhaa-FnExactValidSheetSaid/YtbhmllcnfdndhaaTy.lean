/- The types of this seat's program, as the machine asks for them. -/
import Derived.Test.YtbhmllcnfdndhaaD16
import Derived.Test.YtbhmllcnfdndhaaProg
set_option maxRecDepth 100000
set_option maxHeartbeats 4000000
set_option linter.unusedSimpArgs false
set_option linter.unusedVariables false
namespace Go.Proofs.Ytbhmllcnfdndhaa.AM
open Go.Proofs
def ti2 : TyI := ⟨.int .i64, 1, true, some (.int .i64 (0 : Int)), true⟩
theorem tyOk2 : TyOk Try.prog 2 ti2 := ⟨by kernel_rfl, by kernel_rfl, Try.underlying2, fun z h => by cases h; exact ⟨fun F => by kernel_rfl, fun F L => by simp [DV.Ok, DVs.Ok]⟩, fun _ _ => ⟨Try.t2, _, by kernel_rfl, rfl, by decide, rfl, rfl, by kernel_rfl, fun zd h F => by cases h; kernel_rfl⟩⟩
def ti3 : TyI := ⟨.int .i64, 1, true, some (.int .i64 (0 : Int)), true⟩
theorem tyOk3 : TyOk Try.prog 3 ti3 := ⟨by kernel_rfl, by kernel_rfl, Try.underlying3, fun z h => by cases h; exact ⟨fun F => by kernel_rfl, fun F L => by simp [DV.Ok, DVs.Ok]⟩, fun _ _ => ⟨Try.t3, _, by kernel_rfl, rfl, by decide, rfl, rfl, by kernel_rfl, fun zd h F => by cases h; kernel_rfl⟩⟩
def ti4 : TyI := ⟨.bool, 1, true, some (.lit false), true⟩
theorem tyOk4 : TyOk Try.prog 4 ti4 := ⟨by kernel_rfl, by kernel_rfl, Try.underlying4, fun z h => by cases h; exact ⟨fun F => by kernel_rfl, fun F L => by simp [DV.Ok, DVs.Ok]⟩, fun _ _ => ⟨Try.t4, _, by kernel_rfl, rfl, by decide, rfl, rfl, by kernel_rfl, fun zd h F => by cases h; kernel_rfl⟩⟩
def ti5 : TyI := ⟨.int .u8, 1, true, some (.int .u8 (0 : Int)), true⟩
theorem tyOk5 : TyOk Try.prog 5 ti5 := ⟨by kernel_rfl, by kernel_rfl, Try.underlying5, fun z h => by cases h; exact ⟨fun F => by kernel_rfl, fun F L => by simp [DV.Ok, DVs.Ok]⟩, fun _ _ => ⟨Try.t5, _, by kernel_rfl, rfl, by decide, rfl, rfl, by kernel_rfl, fun zd h F => by cases h; kernel_rfl⟩⟩
def ti9 : TyI := ⟨.str, 1, false, some (.str ByteArray.empty), false⟩
theorem tyOk9 : TyOk Try.prog 9 ti9 := ⟨by kernel_rfl, by kernel_rfl, Try.underlying9, fun z h => by cases h; exact ⟨fun F => by kernel_rfl, fun F L => by simp [DV.Ok, DVs.Ok]⟩, fun h => by cases h⟩
def ti12 : TyI := ⟨.int .u64, 1, true, some (.int .u64 (0 : Int)), true⟩
theorem tyOk12 : TyOk Try.prog 12 ti12 := ⟨by kernel_rfl, by kernel_rfl, Try.underlying12, fun z h => by cases h; exact ⟨fun F => by kernel_rfl, fun F L => by simp [DV.Ok, DVs.Ok]⟩, fun _ _ => ⟨Try.t12, _, by kernel_rfl, rfl, by decide, rfl, rfl, by kernel_rfl, fun zd h F => by cases h; kernel_rfl⟩⟩
def ti13 : TyI := ⟨.struct [(0, 9), (1, 12)], 2, false, some (.agg [.str ByteArray.empty, .int .u64 (0 : Int)]), false⟩
theorem tyOk13 : TyOk Try.prog 13 ti13 := ⟨by kernel_rfl, by kernel_rfl, ⟨⟨_, Try.underlying13, by kernel_rfl⟩, fun k q h => by
    rcases k with _ | _ | k
    · cases h; kernel_rfl
    · cases h; kernel_rfl
    · simp at h⟩, fun z h => by cases h; exact ⟨fun F => by kernel_rfl, fun F L => by simp [DV.Ok, DVs.Ok]⟩, fun h => by cases h⟩
def ti19 : TyI := ⟨.struct [(0, 17)], 1, false, some (.agg [.nilptr]), false⟩
theorem tyOk19 : TyOk Try.prog 19 ti19 := ⟨by kernel_rfl, by kernel_rfl, ⟨⟨_, Try.underlying19, by kernel_rfl⟩, fun k q h => by
    rcases k with _ | k
    · cases h; kernel_rfl
    · simp at h⟩, fun z h => by cases h; exact ⟨fun F => by kernel_rfl, fun F L => by simp [DV.Ok, DVs.Ok]⟩, fun h => by cases h⟩
def ti21 : TyI := ⟨.int .i32, 1, true, some (.int .i32 (0 : Int)), true⟩
theorem tyOk21 : TyOk Try.prog 21 ti21 := ⟨by kernel_rfl, by kernel_rfl, Try.underlying21, fun z h => by cases h; exact ⟨fun F => by kernel_rfl, fun F L => by simp [DV.Ok, DVs.Ok]⟩, fun _ _ => ⟨Try.t21, _, by kernel_rfl, rfl, by decide, rfl, rfl, by kernel_rfl, fun zd h F => by cases h; kernel_rfl⟩⟩
def ti22 : TyI := ⟨.slice 23, 1, false, some (.nilslc), false⟩
theorem tyOk22 : TyOk Try.prog 22 ti22 := ⟨by kernel_rfl, by kernel_rfl, Try.underlying22, fun z h => by cases h; exact ⟨fun F => by kernel_rfl, fun F L => by simp [DV.Ok, DVs.Ok]⟩, fun h => by cases h⟩
def ti23 : TyI := ⟨.flt .f32, 1, true, some (.flt .f32 (0 : Nat)), true⟩
theorem tyOk23 : TyOk Try.prog 23 ti23 := ⟨by kernel_rfl, by kernel_rfl, Try.underlying23, fun z h => by cases h; exact ⟨fun F => by kernel_rfl, fun F L => by simp [DV.Ok, DVs.Ok]⟩, fun _ _ => ⟨Try.t23, _, by kernel_rfl, rfl, by decide, rfl, rfl, by kernel_rfl, fun zd h F => by cases h; kernel_rfl⟩⟩
def ti28 : TyI := ⟨.flt .f64, 1, true, some (.flt .f64 (0 : Nat)), true⟩
theorem tyOk28 : TyOk Try.prog 28 ti28 := ⟨by kernel_rfl, by kernel_rfl, Try.underlying28, fun z h => by cases h; exact ⟨fun F => by kernel_rfl, fun F L => by simp [DV.Ok, DVs.Ok]⟩, fun _ _ => ⟨Try.t28, _, by kernel_rfl, rfl, by decide, rfl, rfl, by kernel_rfl, fun zd h F => by cases h; kernel_rfl⟩⟩
def ti31 : TyI := ⟨.struct [(0, 22), (1, 22), (2, 22)], 3, false, some (.agg [.nilslc, .nilslc, .nilslc]), false⟩
theorem tyOk31 : TyOk Try.prog 31 ti31 := ⟨by kernel_rfl, by kernel_rfl, ⟨⟨_, Try.underlying31, by kernel_rfl⟩, fun k q h => by
    rcases k with _ | _ | _ | k
    · cases h; kernel_rfl
    · cases h; kernel_rfl
    · cases h; kernel_rfl
    · simp at h⟩, fun z h => by cases h; exact ⟨fun F => by kernel_rfl, fun F L => by simp [DV.Ok, DVs.Ok]⟩, fun h => by cases h⟩
def ti32 : TyI := ⟨.struct [(0, 22), (1, 22), (2, 22)], 3, false, some (.agg [.nilslc, .nilslc, .nilslc]), false⟩
theorem tyOk32 : TyOk Try.prog 32 ti32 := ⟨by kernel_rfl, by kernel_rfl, ⟨⟨_, Try.underlying32, by kernel_rfl⟩, fun k q h => by
    rcases k with _ | _ | _ | k
    · cases h; kernel_rfl
    · cases h; kernel_rfl
    · cases h; kernel_rfl
    · simp at h⟩, fun z h => by cases h; exact ⟨fun F => by kernel_rfl, fun F L => by simp [DV.Ok, DVs.Ok]⟩, fun h => by cases h⟩
def ti35 : TyI := ⟨.struct [(0, 22), (1, 22), (2, 22)], 3, false, some (.agg [.nilslc, .nilslc, .nilslc]), false⟩
theorem tyOk35 : TyOk Try.prog 35 ti35 := ⟨by kernel_rfl, by kernel_rfl, ⟨⟨_, Try.underlying35, by kernel_rfl⟩, fun k q h => by
    rcases k with _ | _ | _ | k
    · cases h; kernel_rfl
    · cases h; kernel_rfl
    · cases h; kernel_rfl
    · simp at h⟩, fun z h => by cases h; exact ⟨fun F => by kernel_rfl, fun F L => by simp [DV.Ok, DVs.Ok]⟩, fun h => by cases h⟩
def ti42 : TyI := ⟨.struct [(0, 2), (1, 2), (2, 22)], 3, false, some (.agg [.int .i64 (0 : Int), .int .i64 (0 : Int), .nilslc]), false⟩
theorem tyOk42 : TyOk Try.prog 42 ti42 := ⟨by kernel_rfl, by kernel_rfl, ⟨⟨_, Try.underlying42, by kernel_rfl⟩, fun k q h => by
    rcases k with _ | _ | _ | k
    · cases h; kernel_rfl
    · cases h; kernel_rfl
    · cases h; kernel_rfl
    · simp at h⟩, fun z h => by cases h; exact ⟨fun F => by kernel_rfl, fun F L => by simp [DV.Ok, DVs.Ok]⟩, fun h => by cases h⟩
def ti43 : TyI := ⟨.struct [(0, 2), (1, 2), (2, 22)], 3, false, some (.agg [.int .i64 (0 : Int), .int .i64 (0 : Int), .nilslc]), false⟩
theorem tyOk43 : TyOk Try.prog 43 ti43 := ⟨by kernel_rfl, by kernel_rfl, ⟨⟨_, Try.underlying43, by kernel_rfl⟩, fun k q h => by
    rcases k with _ | _ | _ | k
    · cases h; kernel_rfl
    · cases h; kernel_rfl
    · cases h; kernel_rfl
    · simp at h⟩, fun z h => by cases h; exact ⟨fun F => by kernel_rfl, fun F L => by simp [DV.Ok, DVs.Ok]⟩, fun h => by cases h⟩
def ti44 : TyI := ⟨.struct [(0, 9), (1, 43)], 4, false, some (.agg [.str ByteArray.empty, .int .i64 (0 : Int), .int .i64 (0 : Int), .nilslc]), false⟩
theorem tyOk44 : TyOk Try.prog 44 ti44 := ⟨by kernel_rfl, by kernel_rfl, ⟨⟨_, Try.underlying44, by kernel_rfl⟩, fun k q h => by
    rcases k with _ | _ | k
    · cases h; kernel_rfl
    · cases h; kernel_rfl
    · simp at h⟩, fun z h => by cases h; exact ⟨fun F => by kernel_rfl, fun F L => by simp [DV.Ok, DVs.Ok]⟩, fun h => by cases h⟩
def ti45 : TyI := ⟨.struct [(0, 9), (1, 43)], 4, false, some (.agg [.str ByteArray.empty, .int .i64 (0 : Int), .int .i64 (0 : Int), .nilslc]), false⟩
theorem tyOk45 : TyOk Try.prog 45 ti45 := ⟨by kernel_rfl, by kernel_rfl, ⟨⟨_, Try.underlying45, by kernel_rfl⟩, fun k q h => by
    rcases k with _ | _ | k
    · cases h; kernel_rfl
    · cases h; kernel_rfl
    · simp at h⟩, fun z h => by cases h; exact ⟨fun F => by kernel_rfl, fun F L => by simp [DV.Ok, DVs.Ok]⟩, fun h => by cases h⟩
def ti48 : TyI := ⟨.struct [(0, 2), (1, 2), (2, 22)], 3, false, some (.agg [.int .i64 (0 : Int), .int .i64 (0 : Int), .nilslc]), false⟩
theorem tyOk48 : TyOk Try.prog 48 ti48 := ⟨by kernel_rfl, by kernel_rfl, ⟨⟨_, Try.underlying48, by kernel_rfl⟩, fun k q h => by
    rcases k with _ | _ | _ | k
    · cases h; kernel_rfl
    · cases h; kernel_rfl
    · cases h; kernel_rfl
    · simp at h⟩, fun z h => by cases h; exact ⟨fun F => by kernel_rfl, fun F L => by simp [DV.Ok, DVs.Ok]⟩, fun h => by cases h⟩
def ti49 : TyI := ⟨.struct [(0, 9), (1, 48)], 4, false, some (.agg [.str ByteArray.empty, .int .i64 (0 : Int), .int .i64 (0 : Int), .nilslc]), false⟩
theorem tyOk49 : TyOk Try.prog 49 ti49 := ⟨by kernel_rfl, by kernel_rfl, ⟨⟨_, Try.underlying49, by kernel_rfl⟩, fun k q h => by
    rcases k with _ | _ | k
    · cases h; kernel_rfl
    · cases h; kernel_rfl
    · simp at h⟩, fun z h => by cases h; exact ⟨fun F => by kernel_rfl, fun F L => by simp [DV.Ok, DVs.Ok]⟩, fun h => by cases h⟩
def ti50 : TyI := ⟨.struct [(0, 9), (1, 48)], 4, false, some (.agg [.str ByteArray.empty, .int .i64 (0 : Int), .int .i64 (0 : Int), .nilslc]), false⟩
theorem tyOk50 : TyOk Try.prog 50 ti50 := ⟨by kernel_rfl, by kernel_rfl, ⟨⟨_, Try.underlying50, by kernel_rfl⟩, fun k q h => by
    rcases k with _ | _ | k
    · cases h; kernel_rfl
    · cases h; kernel_rfl
    · simp at h⟩, fun z h => by cases h; exact ⟨fun F => by kernel_rfl, fun F L => by simp [DV.Ok, DVs.Ok]⟩, fun h => by cases h⟩
def ti66 : TyI := ⟨.other, 1, false, some (.nilptr), false⟩
theorem tyOk66 : TyOk Try.prog 66 ti66 := ⟨by kernel_rfl, by kernel_rfl, ⟨_, Try.underlying66, rfl⟩, fun z h => by cases h; exact ⟨fun F => by kernel_rfl, fun F L => by simp [DV.Ok, DVs.Ok]⟩, fun h => by cases h⟩
def ti72 : TyI := ⟨.other, 1, false, some (.nilptr), false⟩
theorem tyOk72 : TyOk Try.prog 72 ti72 := ⟨by kernel_rfl, by kernel_rfl, ⟨_, Try.underlying72, rfl⟩, fun z h => by cases h; exact ⟨fun F => by kernel_rfl, fun F L => by simp [DV.Ok, DVs.Ok]⟩, fun h => by cases h⟩
def ti83 : TyI := ⟨.other, 1, false, some (.nilptr), false⟩
theorem tyOk83 : TyOk Try.prog 83 ti83 := ⟨by kernel_rfl, by kernel_rfl, ⟨_, Try.underlying83, rfl⟩, fun z h => by cases h; exact ⟨fun F => by kernel_rfl, fun F L => by simp [DV.Ok, DVs.Ok]⟩, fun h => by cases h⟩
def ti84 : TyI := ⟨.struct [(0, 22), (1, 22), (2, 23)], 3, false, some (.agg [.nilslc, .nilslc, .flt .f32 (0 : Nat)]), false⟩
theorem tyOk84 : TyOk Try.prog 84 ti84 := ⟨by kernel_rfl, by kernel_rfl, ⟨⟨_, Try.underlying84, by kernel_rfl⟩, fun k q h => by
    rcases k with _ | _ | _ | k
    · cases h; kernel_rfl
    · cases h; kernel_rfl
    · cases h; kernel_rfl
    · simp at h⟩, fun z h => by cases h; exact ⟨fun F => by kernel_rfl, fun F L => by simp [DV.Ok, DVs.Ok]⟩, fun h => by cases h⟩
def ti85 : TyI := ⟨.struct [(0, 22), (1, 22), (2, 23)], 3, false, some (.agg [.nilslc, .nilslc, .flt .f32 (0 : Nat)]), false⟩
theorem tyOk85 : TyOk Try.prog 85 ti85 := ⟨by kernel_rfl, by kernel_rfl, ⟨⟨_, Try.underlying85, by kernel_rfl⟩, fun k q h => by
    rcases k with _ | _ | _ | k
    · cases h; kernel_rfl
    · cases h; kernel_rfl
    · cases h; kernel_rfl
    · simp at h⟩, fun z h => by cases h; exact ⟨fun F => by kernel_rfl, fun F L => by simp [DV.Ok, DVs.Ok]⟩, fun h => by cases h⟩
def ti92 : TyI := ⟨.other, 1, false, some (.nilptr), false⟩
theorem tyOk92 : TyOk Try.prog 92 ti92 := ⟨by kernel_rfl, by kernel_rfl, ⟨_, Try.underlying92, rfl⟩, fun z h => by cases h; exact ⟨fun F => by kernel_rfl, fun F L => by simp [DV.Ok, DVs.Ok]⟩, fun h => by cases h⟩
def ti100 : TyI := ⟨.int .u64, 1, true, some (.int .u64 (0 : Int)), true⟩
theorem tyOk100 : TyOk Try.prog 100 ti100 := ⟨by kernel_rfl, by kernel_rfl, Try.underlying100, fun z h => by cases h; exact ⟨fun F => by kernel_rfl, fun F L => by simp [DV.Ok, DVs.Ok]⟩, fun _ _ => ⟨Try.t100, _, by kernel_rfl, rfl, by decide, rfl, rfl, by kernel_rfl, fun zd h F => by cases h; kernel_rfl⟩⟩
def ti109 : TyI := ⟨.int .u32, 1, true, some (.int .u32 (0 : Int)), true⟩
theorem tyOk109 : TyOk Try.prog 109 ti109 := ⟨by kernel_rfl, by kernel_rfl, Try.underlying109, fun z h => by cases h; exact ⟨fun F => by kernel_rfl, fun F L => by simp [DV.Ok, DVs.Ok]⟩, fun _ _ => ⟨Try.t109, _, by kernel_rfl, rfl, by decide, rfl, rfl, by kernel_rfl, fun zd h F => by cases h; kernel_rfl⟩⟩
def ti113 : TyI := ⟨.other, 1, false, some (.nilptr), false⟩
theorem tyOk113 : TyOk Try.prog 113 ti113 := ⟨by kernel_rfl, by kernel_rfl, ⟨_, Try.underlying113, rfl⟩, fun z h => by cases h; exact ⟨fun F => by kernel_rfl, fun F L => by simp [DV.Ok, DVs.Ok]⟩, fun h => by cases h⟩
def TTl : List (Option TyI) := [none, none, some ti2, some ti3, some ti4, some ti5, none, none, none, some ti9, none, none, some ti12, some ti13, none, none, none, none, none, some ti19, none, some ti21, some ti22, some ti23, none, none, none, none, some ti28, none, none, some ti31, some ti32, none, none, some ti35, none, none, none, none, none, none, some ti42, some ti43, some ti44, some ti45, none, none, some ti48, some ti49, some ti50, none, none, none, none, none, none, none, none, none, none, none, none, none, none, none, some ti66, none, none, none, none, none, some ti72, none, none, none, none, none, none, none, none, none, none, some ti83, some ti84, some ti85, none, none, none, none, none, none, some ti92, none, none, none, none, none, none, none, some ti100, none, none, none, none, none, none, none, none, some ti109, none, none, none, some ti113, none, none, none, none, none, none]
def TT : TyT := lookT TTl
theorem tok : TOk Try.prog TT := tok_of (show AllTy Try.prog 0 TTl from ⟨tyOk2, tyOk3, tyOk4, tyOk5, tyOk9, tyOk12, tyOk13, tyOk19, tyOk21, tyOk22, tyOk23, tyOk28, tyOk31, tyOk32, tyOk35, tyOk42, tyOk43, tyOk44, tyOk45, tyOk48, tyOk49, tyOk50, tyOk66, tyOk72, tyOk83, tyOk84, tyOk85, tyOk92, tyOk100, tyOk109, tyOk113, trivial⟩)
theorem mixed : Try.prog.follows .mixedOrders = true := by kernel_rfl
end Go.Proofs.Ytbhmllcnfdndhaa.AM
