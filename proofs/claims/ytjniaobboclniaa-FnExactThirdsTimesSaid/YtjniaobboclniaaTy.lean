/- The types of this seat's program, as the machine asks for them. -/
import Derived.Test.YtjniaobboclniaaD16
import Derived.Test.YtjniaobboclniaaProg
set_option maxRecDepth 100000
set_option maxHeartbeats 4000000
set_option linter.unusedSimpArgs false
set_option linter.unusedVariables false
namespace Go.Proofs.Ytjniaobboclniaa.AM
open Go.Proofs
def ti2 : TyI := ⟨.int .i64, 1, true, some (.int .i64 (0 : Int)), true⟩
theorem tyOk2 : TyOk Try.prog 2 ti2 := ⟨by kernel_rfl, by kernel_rfl, Try.underlying2, fun z h => by cases h; exact ⟨fun F => by kernel_rfl, fun F L => by simp [DV.Ok, DVs.Ok]⟩, fun _ _ => ⟨Try.t2, _, by kernel_rfl, rfl, by decide, rfl, rfl, by kernel_rfl, fun zd h F => by cases h; kernel_rfl⟩⟩
def ti3 : TyI := ⟨.int .i64, 1, true, some (.int .i64 (0 : Int)), true⟩
theorem tyOk3 : TyOk Try.prog 3 ti3 := ⟨by kernel_rfl, by kernel_rfl, Try.underlying3, fun z h => by cases h; exact ⟨fun F => by kernel_rfl, fun F L => by simp [DV.Ok, DVs.Ok]⟩, fun _ _ => ⟨Try.t3, _, by kernel_rfl, rfl, by decide, rfl, rfl, by kernel_rfl, fun zd h F => by cases h; kernel_rfl⟩⟩
def ti4 : TyI := ⟨.bool, 1, true, some (.lit false), true⟩
theorem tyOk4 : TyOk Try.prog 4 ti4 := ⟨by kernel_rfl, by kernel_rfl, Try.underlying4, fun z h => by cases h; exact ⟨fun F => by kernel_rfl, fun F L => by simp [DV.Ok, DVs.Ok]⟩, fun _ _ => ⟨Try.t4, _, by kernel_rfl, rfl, by decide, rfl, rfl, by kernel_rfl, fun zd h F => by cases h; kernel_rfl⟩⟩
def ti5 : TyI := ⟨.int .u8, 1, true, some (.int .u8 (0 : Int)), true⟩
theorem tyOk5 : TyOk Try.prog 5 ti5 := ⟨by kernel_rfl, by kernel_rfl, Try.underlying5, fun z h => by cases h; exact ⟨fun F => by kernel_rfl, fun F L => by simp [DV.Ok, DVs.Ok]⟩, fun _ _ => ⟨Try.t5, _, by kernel_rfl, rfl, by decide, rfl, rfl, by kernel_rfl, fun zd h F => by cases h; kernel_rfl⟩⟩
def ti9 : TyI := ⟨.str, 1, false, some (.str ByteArray.empty), false⟩
theorem tyOk9 : TyOk Try.prog 9 ti9 := ⟨by kernel_rfl, by kernel_rfl, Try.underlying9, fun z h => by cases h; exact ⟨fun F => by kernel_rfl, fun F L => by simp [DV.Ok, DVs.Ok]⟩, fun h => by cases h⟩
def ti12 : TyI := ⟨.int .u64, 1, true, some (.int .u64 (0 : Int)), true⟩
theorem tyOk12 : TyOk Try.prog 12 ti12 := ⟨by kernel_rfl, by kernel_rfl, Try.underlying12, fun z h => by cases h; exact ⟨fun F => by kernel_rfl, fun F L => by simp [DV.Ok, DVs.Ok]⟩, fun _ _ => ⟨Try.t12, _, by kernel_rfl, rfl, by decide, rfl, rfl, by kernel_rfl, fun zd h F => by cases h; kernel_rfl⟩⟩
def ti13 : TyI := ⟨.struct [(0, 9), (1, 12)], 2, false, some (.agg [.str ByteArray.empty, .int .u64 (0 : Int)]), false⟩
theorem tyOk13 : TyOk Try.prog 13 ti13 := ⟨by kernel_rfl, by kernel_rfl, ⟨⟨_, Try.underlying13, by kernel_rfl⟩, fun k q h => by
    rcases k with _ | _ | k
    · cases h; kernel_rfl
    · cases h; kernel_rfl
    · simp at h⟩, fun z h => by cases h; exact ⟨fun F => by kernel_rfl, fun F L => by simp [DV.Ok, DVs.Ok]⟩, fun h => by cases h⟩
def ti19 : TyI := ⟨.struct [(0, 17)], 1, false, some (.agg [.nilptr]), false⟩
theorem tyOk19 : TyOk Try.prog 19 ti19 := ⟨by kernel_rfl, by kernel_rfl, ⟨⟨_, Try.underlying19, by kernel_rfl⟩, fun k q h => by
    rcases k with _ | k
    · cases h; kernel_rfl
    · simp at h⟩, fun z h => by cases h; exact ⟨fun F => by kernel_rfl, fun F L => by simp [DV.Ok, DVs.Ok]⟩, fun h => by cases h⟩
def ti21 : TyI := ⟨.int .i32, 1, true, some (.int .i32 (0 : Int)), true⟩
theorem tyOk21 : TyOk Try.prog 21 ti21 := ⟨by kernel_rfl, by kernel_rfl, Try.underlying21, fun z h => by cases h; exact ⟨fun F => by kernel_rfl, fun F L => by simp [DV.Ok, DVs.Ok]⟩, fun _ _ => ⟨Try.t21, _, by kernel_rfl, rfl, by decide, rfl, rfl, by kernel_rfl, fun zd h F => by cases h; kernel_rfl⟩⟩
def ti22 : TyI := ⟨.slice 5, 1, false, some (.nilslc), false⟩
theorem tyOk22 : TyOk Try.prog 22 ti22 := ⟨by kernel_rfl, by kernel_rfl, Try.underlying22, fun z h => by cases h; exact ⟨fun F => by kernel_rfl, fun F L => by simp [DV.Ok, DVs.Ok]⟩, fun h => by cases h⟩
def ti24 : TyI := ⟨.slice 2, 1, false, some (.nilslc), false⟩
theorem tyOk24 : TyOk Try.prog 24 ti24 := ⟨by kernel_rfl, by kernel_rfl, Try.underlying24, fun z h => by cases h; exact ⟨fun F => by kernel_rfl, fun F L => by simp [DV.Ok, DVs.Ok]⟩, fun h => by cases h⟩
def ti26 : TyI := ⟨.struct [(0, 2), (1, 2), (2, 24)], 3, false, some (.agg [.int .i64 (0 : Int), .int .i64 (0 : Int), .nilslc]), false⟩
theorem tyOk26 : TyOk Try.prog 26 ti26 := ⟨by kernel_rfl, by kernel_rfl, ⟨⟨_, Try.underlying26, by kernel_rfl⟩, fun k q h => by
    rcases k with _ | _ | _ | k
    · cases h; kernel_rfl
    · cases h; kernel_rfl
    · cases h; kernel_rfl
    · simp at h⟩, fun z h => by cases h; exact ⟨fun F => by kernel_rfl, fun F L => by simp [DV.Ok, DVs.Ok]⟩, fun h => by cases h⟩
def ti27 : TyI := ⟨.struct [(0, 2), (1, 2), (2, 24)], 3, false, some (.agg [.int .i64 (0 : Int), .int .i64 (0 : Int), .nilslc]), false⟩
theorem tyOk27 : TyOk Try.prog 27 ti27 := ⟨by kernel_rfl, by kernel_rfl, ⟨⟨_, Try.underlying27, by kernel_rfl⟩, fun k q h => by
    rcases k with _ | _ | _ | k
    · cases h; kernel_rfl
    · cases h; kernel_rfl
    · cases h; kernel_rfl
    · simp at h⟩, fun z h => by cases h; exact ⟨fun F => by kernel_rfl, fun F L => by simp [DV.Ok, DVs.Ok]⟩, fun h => by cases h⟩
def ti31 : TyI := ⟨.slice 24, 1, false, some (.nilslc), false⟩
theorem tyOk31 : TyOk Try.prog 31 ti31 := ⟨by kernel_rfl, by kernel_rfl, Try.underlying31, fun z h => by cases h; exact ⟨fun F => by kernel_rfl, fun F L => by simp [DV.Ok, DVs.Ok]⟩, fun h => by cases h⟩
def ti38 : TyI := ⟨.slice 68, 1, false, some (.nilslc), false⟩
theorem tyOk38 : TyOk Try.prog 38 ti38 := ⟨by kernel_rfl, by kernel_rfl, Try.underlying38, fun z h => by cases h; exact ⟨fun F => by kernel_rfl, fun F L => by simp [DV.Ok, DVs.Ok]⟩, fun h => by cases h⟩
def ti41 : TyI := ⟨.slice 73, 1, false, some (.nilslc), false⟩
theorem tyOk41 : TyOk Try.prog 41 ti41 := ⟨by kernel_rfl, by kernel_rfl, Try.underlying41, fun z h => by cases h; exact ⟨fun F => by kernel_rfl, fun F L => by simp [DV.Ok, DVs.Ok]⟩, fun h => by cases h⟩
def ti44 : TyI := ⟨.slice 113, 1, false, some (.nilslc), false⟩
theorem tyOk44 : TyOk Try.prog 44 ti44 := ⟨by kernel_rfl, by kernel_rfl, Try.underlying44, fun z h => by cases h; exact ⟨fun F => by kernel_rfl, fun F L => by simp [DV.Ok, DVs.Ok]⟩, fun h => by cases h⟩
def ti45 : TyI := ⟨.struct [(0, 2), (1, 2), (2, 44)], 3, false, some (.agg [.int .i64 (0 : Int), .int .i64 (0 : Int), .nilslc]), false⟩
theorem tyOk45 : TyOk Try.prog 45 ti45 := ⟨by kernel_rfl, by kernel_rfl, ⟨⟨_, Try.underlying45, by kernel_rfl⟩, fun k q h => by
    rcases k with _ | _ | _ | k
    · cases h; kernel_rfl
    · cases h; kernel_rfl
    · cases h; kernel_rfl
    · simp at h⟩, fun z h => by cases h; exact ⟨fun F => by kernel_rfl, fun F L => by simp [DV.Ok, DVs.Ok]⟩, fun h => by cases h⟩
def ti46 : TyI := ⟨.struct [(0, 2), (1, 2), (2, 44)], 3, false, some (.agg [.int .i64 (0 : Int), .int .i64 (0 : Int), .nilslc]), false⟩
theorem tyOk46 : TyOk Try.prog 46 ti46 := ⟨by kernel_rfl, by kernel_rfl, ⟨⟨_, Try.underlying46, by kernel_rfl⟩, fun k q h => by
    rcases k with _ | _ | _ | k
    · cases h; kernel_rfl
    · cases h; kernel_rfl
    · cases h; kernel_rfl
    · simp at h⟩, fun z h => by cases h; exact ⟨fun F => by kernel_rfl, fun F L => by simp [DV.Ok, DVs.Ok]⟩, fun h => by cases h⟩
def ti57 : TyI := ⟨.struct [(0, 44), (1, 44), (2, 44)], 3, false, some (.agg [.nilslc, .nilslc, .nilslc]), false⟩
theorem tyOk57 : TyOk Try.prog 57 ti57 := ⟨by kernel_rfl, by kernel_rfl, ⟨⟨_, Try.underlying57, by kernel_rfl⟩, fun k q h => by
    rcases k with _ | _ | _ | k
    · cases h; kernel_rfl
    · cases h; kernel_rfl
    · cases h; kernel_rfl
    · simp at h⟩, fun z h => by cases h; exact ⟨fun F => by kernel_rfl, fun F L => by simp [DV.Ok, DVs.Ok]⟩, fun h => by cases h⟩
def ti58 : TyI := ⟨.struct [(0, 44), (1, 44), (2, 44)], 3, false, some (.agg [.nilslc, .nilslc, .nilslc]), false⟩
theorem tyOk58 : TyOk Try.prog 58 ti58 := ⟨by kernel_rfl, by kernel_rfl, ⟨⟨_, Try.underlying58, by kernel_rfl⟩, fun k q h => by
    rcases k with _ | _ | _ | k
    · cases h; kernel_rfl
    · cases h; kernel_rfl
    · cases h; kernel_rfl
    · simp at h⟩, fun z h => by cases h; exact ⟨fun F => by kernel_rfl, fun F L => by simp [DV.Ok, DVs.Ok]⟩, fun h => by cases h⟩
def ti61 : TyI := ⟨.struct [(0, 44), (1, 44), (2, 44)], 3, false, some (.agg [.nilslc, .nilslc, .nilslc]), false⟩
theorem tyOk61 : TyOk Try.prog 61 ti61 := ⟨by kernel_rfl, by kernel_rfl, ⟨⟨_, Try.underlying61, by kernel_rfl⟩, fun k q h => by
    rcases k with _ | _ | _ | k
    · cases h; kernel_rfl
    · cases h; kernel_rfl
    · cases h; kernel_rfl
    · simp at h⟩, fun z h => by cases h; exact ⟨fun F => by kernel_rfl, fun F L => by simp [DV.Ok, DVs.Ok]⟩, fun h => by cases h⟩
def ti66 : TyI := ⟨.struct [(0, 2), (1, 2), (2, 44)], 3, false, some (.agg [.int .i64 (0 : Int), .int .i64 (0 : Int), .nilslc]), false⟩
theorem tyOk66 : TyOk Try.prog 66 ti66 := ⟨by kernel_rfl, by kernel_rfl, ⟨⟨_, Try.underlying66, by kernel_rfl⟩, fun k q h => by
    rcases k with _ | _ | _ | k
    · cases h; kernel_rfl
    · cases h; kernel_rfl
    · cases h; kernel_rfl
    · simp at h⟩, fun z h => by cases h; exact ⟨fun F => by kernel_rfl, fun F L => by simp [DV.Ok, DVs.Ok]⟩, fun h => by cases h⟩
def ti67 : TyI := ⟨.struct [(0, 9), (1, 66)], 4, false, some (.agg [.str ByteArray.empty, .int .i64 (0 : Int), .int .i64 (0 : Int), .nilslc]), false⟩
theorem tyOk67 : TyOk Try.prog 67 ti67 := ⟨by kernel_rfl, by kernel_rfl, ⟨⟨_, Try.underlying67, by kernel_rfl⟩, fun k q h => by
    rcases k with _ | _ | k
    · cases h; kernel_rfl
    · cases h; kernel_rfl
    · simp at h⟩, fun z h => by cases h; exact ⟨fun F => by kernel_rfl, fun F L => by simp [DV.Ok, DVs.Ok]⟩, fun h => by cases h⟩
def ti68 : TyI := ⟨.struct [(0, 9), (1, 66)], 4, false, some (.agg [.str ByteArray.empty, .int .i64 (0 : Int), .int .i64 (0 : Int), .nilslc]), false⟩
theorem tyOk68 : TyOk Try.prog 68 ti68 := ⟨by kernel_rfl, by kernel_rfl, ⟨⟨_, Try.underlying68, by kernel_rfl⟩, fun k q h => by
    rcases k with _ | _ | k
    · cases h; kernel_rfl
    · cases h; kernel_rfl
    · simp at h⟩, fun z h => by cases h; exact ⟨fun F => by kernel_rfl, fun F L => by simp [DV.Ok, DVs.Ok]⟩, fun h => by cases h⟩
def ti72 : TyI := ⟨.struct [(0, 9), (1, 46)], 4, false, some (.agg [.str ByteArray.empty, .int .i64 (0 : Int), .int .i64 (0 : Int), .nilslc]), false⟩
theorem tyOk72 : TyOk Try.prog 72 ti72 := ⟨by kernel_rfl, by kernel_rfl, ⟨⟨_, Try.underlying72, by kernel_rfl⟩, fun k q h => by
    rcases k with _ | _ | k
    · cases h; kernel_rfl
    · cases h; kernel_rfl
    · simp at h⟩, fun z h => by cases h; exact ⟨fun F => by kernel_rfl, fun F L => by simp [DV.Ok, DVs.Ok]⟩, fun h => by cases h⟩
def ti73 : TyI := ⟨.struct [(0, 9), (1, 46)], 4, false, some (.agg [.str ByteArray.empty, .int .i64 (0 : Int), .int .i64 (0 : Int), .nilslc]), false⟩
theorem tyOk73 : TyOk Try.prog 73 ti73 := ⟨by kernel_rfl, by kernel_rfl, ⟨⟨_, Try.underlying73, by kernel_rfl⟩, fun k q h => by
    rcases k with _ | _ | k
    · cases h; kernel_rfl
    · cases h; kernel_rfl
    · simp at h⟩, fun z h => by cases h; exact ⟨fun F => by kernel_rfl, fun F L => by simp [DV.Ok, DVs.Ok]⟩, fun h => by cases h⟩
def ti78 : TyI := ⟨.slice 3, 1, false, some (.nilslc), false⟩
theorem tyOk78 : TyOk Try.prog 78 ti78 := ⟨by kernel_rfl, by kernel_rfl, Try.underlying78, fun z h => by cases h; exact ⟨fun F => by kernel_rfl, fun F L => by simp [DV.Ok, DVs.Ok]⟩, fun h => by cases h⟩
def ti85 : TyI := ⟨.struct [(0, 2), (1, 2), (2, 24)], 3, false, some (.agg [.int .i64 (0 : Int), .int .i64 (0 : Int), .nilslc]), false⟩
theorem tyOk85 : TyOk Try.prog 85 ti85 := ⟨by kernel_rfl, by kernel_rfl, ⟨⟨_, Try.underlying85, by kernel_rfl⟩, fun k q h => by
    rcases k with _ | _ | _ | k
    · cases h; kernel_rfl
    · cases h; kernel_rfl
    · cases h; kernel_rfl
    · simp at h⟩, fun z h => by cases h; exact ⟨fun F => by kernel_rfl, fun F L => by simp [DV.Ok, DVs.Ok]⟩, fun h => by cases h⟩
def ti97 : TyI := ⟨.other, 1, false, some (.nilptr), false⟩
theorem tyOk97 : TyOk Try.prog 97 ti97 := ⟨by kernel_rfl, by kernel_rfl, ⟨_, Try.underlying97, rfl⟩, fun z h => by cases h; exact ⟨fun F => by kernel_rfl, fun F L => by simp [DV.Ok, DVs.Ok]⟩, fun h => by cases h⟩
def ti109 : TyI := ⟨.other, 1, false, some (.nilptr), false⟩
theorem tyOk109 : TyOk Try.prog 109 ti109 := ⟨by kernel_rfl, by kernel_rfl, ⟨_, Try.underlying109, rfl⟩, fun z h => by cases h; exact ⟨fun F => by kernel_rfl, fun F L => by simp [DV.Ok, DVs.Ok]⟩, fun h => by cases h⟩
def ti113 : TyI := ⟨.flt .f32, 1, true, some (.flt .f32 (0 : Nat)), true⟩
theorem tyOk113 : TyOk Try.prog 113 ti113 := ⟨by kernel_rfl, by kernel_rfl, Try.underlying113, fun z h => by cases h; exact ⟨fun F => by kernel_rfl, fun F L => by simp [DV.Ok, DVs.Ok]⟩, fun _ _ => ⟨Try.t113, _, by kernel_rfl, rfl, by decide, rfl, rfl, by kernel_rfl, fun zd h F => by cases h; kernel_rfl⟩⟩
def ti116 : TyI := ⟨.flt .f64, 1, true, some (.flt .f64 (0 : Nat)), true⟩
theorem tyOk116 : TyOk Try.prog 116 ti116 := ⟨by kernel_rfl, by kernel_rfl, Try.underlying116, fun z h => by cases h; exact ⟨fun F => by kernel_rfl, fun F L => by simp [DV.Ok, DVs.Ok]⟩, fun _ _ => ⟨Try.t116, _, by kernel_rfl, rfl, by decide, rfl, rfl, by kernel_rfl, fun zd h F => by cases h; kernel_rfl⟩⟩
def ti121 : TyI := ⟨.other, 1, false, some (.nilptr), false⟩
theorem tyOk121 : TyOk Try.prog 121 ti121 := ⟨by kernel_rfl, by kernel_rfl, ⟨_, Try.underlying121, rfl⟩, fun z h => by cases h; exact ⟨fun F => by kernel_rfl, fun F L => by simp [DV.Ok, DVs.Ok]⟩, fun h => by cases h⟩
def ti122 : TyI := ⟨.struct [(0, 44), (1, 44), (2, 113)], 3, false, some (.agg [.nilslc, .nilslc, .flt .f32 (0 : Nat)]), false⟩
theorem tyOk122 : TyOk Try.prog 122 ti122 := ⟨by kernel_rfl, by kernel_rfl, ⟨⟨_, Try.underlying122, by kernel_rfl⟩, fun k q h => by
    rcases k with _ | _ | _ | k
    · cases h; kernel_rfl
    · cases h; kernel_rfl
    · cases h; kernel_rfl
    · simp at h⟩, fun z h => by cases h; exact ⟨fun F => by kernel_rfl, fun F L => by simp [DV.Ok, DVs.Ok]⟩, fun h => by cases h⟩
def ti123 : TyI := ⟨.struct [(0, 44), (1, 44), (2, 113)], 3, false, some (.agg [.nilslc, .nilslc, .flt .f32 (0 : Nat)]), false⟩
theorem tyOk123 : TyOk Try.prog 123 ti123 := ⟨by kernel_rfl, by kernel_rfl, ⟨⟨_, Try.underlying123, by kernel_rfl⟩, fun k q h => by
    rcases k with _ | _ | _ | k
    · cases h; kernel_rfl
    · cases h; kernel_rfl
    · cases h; kernel_rfl
    · simp at h⟩, fun z h => by cases h; exact ⟨fun F => by kernel_rfl, fun F L => by simp [DV.Ok, DVs.Ok]⟩, fun h => by cases h⟩
def ti128 : TyI := ⟨.other, 1, false, some (.nilptr), false⟩
theorem tyOk128 : TyOk Try.prog 128 ti128 := ⟨by kernel_rfl, by kernel_rfl, ⟨_, Try.underlying128, rfl⟩, fun z h => by cases h; exact ⟨fun F => by kernel_rfl, fun F L => by simp [DV.Ok, DVs.Ok]⟩, fun h => by cases h⟩
def ti130 : TyI := ⟨.other, 1, false, some (.nilptr), false⟩
theorem tyOk130 : TyOk Try.prog 130 ti130 := ⟨by kernel_rfl, by kernel_rfl, ⟨_, Try.underlying130, rfl⟩, fun z h => by cases h; exact ⟨fun F => by kernel_rfl, fun F L => by simp [DV.Ok, DVs.Ok]⟩, fun h => by cases h⟩
def ti135 : TyI := ⟨.slice 9, 1, false, some (.nilslc), false⟩
theorem tyOk135 : TyOk Try.prog 135 ti135 := ⟨by kernel_rfl, by kernel_rfl, Try.underlying135, fun z h => by cases h; exact ⟨fun F => by kernel_rfl, fun F L => by simp [DV.Ok, DVs.Ok]⟩, fun h => by cases h⟩
def ti144 : TyI := ⟨.other, 1, false, some (.nilptr), false⟩
theorem tyOk144 : TyOk Try.prog 144 ti144 := ⟨by kernel_rfl, by kernel_rfl, ⟨_, Try.underlying144, rfl⟩, fun z h => by cases h; exact ⟨fun F => by kernel_rfl, fun F L => by simp [DV.Ok, DVs.Ok]⟩, fun h => by cases h⟩
def ti156 : TyI := ⟨.int .u64, 1, true, some (.int .u64 (0 : Int)), true⟩
theorem tyOk156 : TyOk Try.prog 156 ti156 := ⟨by kernel_rfl, by kernel_rfl, Try.underlying156, fun z h => by cases h; exact ⟨fun F => by kernel_rfl, fun F L => by simp [DV.Ok, DVs.Ok]⟩, fun _ _ => ⟨Try.t156, _, by kernel_rfl, rfl, by decide, rfl, rfl, by kernel_rfl, fun zd h F => by cases h; kernel_rfl⟩⟩
def ti157 : TyI := ⟨.struct [(0, 22), (1, 3), (2, 156)], 3, false, some (.agg [.nilslc, .int .i64 (0 : Int), .int .u64 (0 : Int)]), false⟩
theorem tyOk157 : TyOk Try.prog 157 ti157 := ⟨by kernel_rfl, by kernel_rfl, ⟨⟨_, Try.underlying157, by kernel_rfl⟩, fun k q h => by
    rcases k with _ | _ | _ | k
    · cases h; kernel_rfl
    · cases h; kernel_rfl
    · cases h; kernel_rfl
    · simp at h⟩, fun z h => by cases h; exact ⟨fun F => by kernel_rfl, fun F L => by simp [DV.Ok, DVs.Ok]⟩, fun h => by cases h⟩
def ti158 : TyI := ⟨.struct [(0, 22), (1, 3), (2, 156)], 3, false, some (.agg [.nilslc, .int .i64 (0 : Int), .int .u64 (0 : Int)]), false⟩
theorem tyOk158 : TyOk Try.prog 158 ti158 := ⟨by kernel_rfl, by kernel_rfl, ⟨⟨_, Try.underlying158, by kernel_rfl⟩, fun k q h => by
    rcases k with _ | _ | _ | k
    · cases h; kernel_rfl
    · cases h; kernel_rfl
    · cases h; kernel_rfl
    · simp at h⟩, fun z h => by cases h; exact ⟨fun F => by kernel_rfl, fun F L => by simp [DV.Ok, DVs.Ok]⟩, fun h => by cases h⟩
def ti177 : TyI := ⟨.int .u32, 1, true, some (.int .u32 (0 : Int)), true⟩
theorem tyOk177 : TyOk Try.prog 177 ti177 := ⟨by kernel_rfl, by kernel_rfl, Try.underlying177, fun z h => by cases h; exact ⟨fun F => by kernel_rfl, fun F L => by simp [DV.Ok, DVs.Ok]⟩, fun _ _ => ⟨Try.t177, _, by kernel_rfl, rfl, by decide, rfl, rfl, by kernel_rfl, fun zd h F => by cases h; kernel_rfl⟩⟩
def ti190 : TyI := ⟨.int .u64, 1, true, some (.int .u64 (0 : Int)), true⟩
theorem tyOk190 : TyOk Try.prog 190 ti190 := ⟨by kernel_rfl, by kernel_rfl, Try.underlying190, fun z h => by cases h; exact ⟨fun F => by kernel_rfl, fun F L => by simp [DV.Ok, DVs.Ok]⟩, fun _ _ => ⟨Try.t190, _, by kernel_rfl, rfl, by decide, rfl, rfl, by kernel_rfl, fun zd h F => by cases h; kernel_rfl⟩⟩
def ti205 : TyI := ⟨.other, 1, false, some (.nilptr), false⟩
theorem tyOk205 : TyOk Try.prog 205 ti205 := ⟨by kernel_rfl, by kernel_rfl, ⟨_, Try.underlying205, rfl⟩, fun z h => by cases h; exact ⟨fun F => by kernel_rfl, fun F L => by simp [DV.Ok, DVs.Ok]⟩, fun h => by cases h⟩
def TTl : List (Option TyI) := [none, none, some ti2, some ti3, some ti4, some ti5, none, none, none, some ti9, none, none, some ti12, some ti13, none, none, none, none, none, some ti19, none, some ti21, some ti22, none, some ti24, none, some ti26, some ti27, none, none, none, some ti31, none, none, none, none, none, none, some ti38, none, none, some ti41, none, none, some ti44, some ti45, some ti46, none, none, none, none, none, none, none, none, none, none, some ti57, some ti58, none, none, some ti61, none, none, none, none, some ti66, some ti67, some ti68, none, none, none, some ti72, some ti73, none, none, none, none, some ti78, none, none, none, none, none, none, some ti85, none, none, none, none, none, none, none, none, none, none, none, some ti97, none, none, none, none, none, none, none, none, none, none, none, some ti109, none, none, none, some ti113, none, none, some ti116, none, none, none, none, some ti121, some ti122, some ti123, none, none, none, none, some ti128, none, some ti130, none, none, none, none, some ti135, none, none, none, none, none, none, none, none, some ti144, none, none, none, none, none, none, none, none, none, none, none, some ti156, some ti157, some ti158, none, none, none, none, none, none, none, none, none, none, none, none, none, none, none, none, none, none, some ti177, none, none, none, none, none, none, none, none, none, none, none, none, some ti190, none, none, none, none, none, none, none, none, none, none, none, none, none, none, some ti205, none, none, none, none, none, none, none]
def TT : TyT := lookT TTl
theorem tok : TOk Try.prog TT := tok_of (show AllTy Try.prog 0 TTl from ⟨tyOk2, tyOk3, tyOk4, tyOk5, tyOk9, tyOk12, tyOk13, tyOk19, tyOk21, tyOk22, tyOk24, tyOk26, tyOk27, tyOk31, tyOk38, tyOk41, tyOk44, tyOk45, tyOk46, tyOk57, tyOk58, tyOk61, tyOk66, tyOk67, tyOk68, tyOk72, tyOk73, tyOk78, tyOk85, tyOk97, tyOk109, tyOk113, tyOk116, tyOk121, tyOk122, tyOk123, tyOk128, tyOk130, tyOk135, tyOk144, tyOk156, tyOk157, tyOk158, tyOk177, tyOk190, tyOk205, trivial⟩)
theorem mixed : Try.prog.follows .mixedOrders = true := by kernel_rfl
end Go.Proofs.Ytjniaobboclniaa.AM
