/- The types of this seat's program, as the machine asks for them. -/
import Derived.Test.YtbnakafnaeafiaaD23
import Derived.Test.YtbnakafnaeafiaaProg
set_option maxRecDepth 100000
set_option maxHeartbeats 4000000
set_option linter.unusedSimpArgs false
set_option linter.unusedVariables false
namespace Go.Proofs.Ytbnakafnaeafiaa.AM
open Go.Proofs
def ti1 : TyI := ⟨.other, 1, false, some (.nilfn), false⟩
theorem tyOk1 : TyOk Try.prog 1 ti1 := ⟨by kernel_rfl, by kernel_rfl, ⟨_, Try.underlying1, rfl⟩, fun z h => by cases h; exact ⟨fun F => by kernel_rfl, fun F L => by simp [DV.Ok, DVs.Ok]⟩, fun h => by cases h⟩
def ti2 : TyI := ⟨.int .i64, 1, true, some (.int .i64 (0 : Int)), true⟩
theorem tyOk2 : TyOk Try.prog 2 ti2 := ⟨by kernel_rfl, by kernel_rfl, Try.underlying2, fun z h => by cases h; exact ⟨fun F => by kernel_rfl, fun F L => by simp [DV.Ok, DVs.Ok]⟩, fun _ => ⟨Try.t2, _, by kernel_rfl, rfl, by decide, rfl, rfl, by kernel_rfl, fun zd h F => by cases h; kernel_rfl⟩⟩
def ti3 : TyI := ⟨.int .i64, 1, true, some (.int .i64 (0 : Int)), true⟩
theorem tyOk3 : TyOk Try.prog 3 ti3 := ⟨by kernel_rfl, by kernel_rfl, Try.underlying3, fun z h => by cases h; exact ⟨fun F => by kernel_rfl, fun F L => by simp [DV.Ok, DVs.Ok]⟩, fun _ => ⟨Try.t3, _, by kernel_rfl, rfl, by decide, rfl, rfl, by kernel_rfl, fun zd h F => by cases h; kernel_rfl⟩⟩
def ti4 : TyI := ⟨.bool, 1, true, some (.lit false), true⟩
theorem tyOk4 : TyOk Try.prog 4 ti4 := ⟨by kernel_rfl, by kernel_rfl, Try.underlying4, fun z h => by cases h; exact ⟨fun F => by kernel_rfl, fun F L => by simp [DV.Ok, DVs.Ok]⟩, fun _ => ⟨Try.t4, _, by kernel_rfl, rfl, by decide, rfl, rfl, by kernel_rfl, fun zd h F => by cases h; kernel_rfl⟩⟩
def ti5 : TyI := ⟨.int .u8, 1, true, some (.int .u8 (0 : Int)), true⟩
theorem tyOk5 : TyOk Try.prog 5 ti5 := ⟨by kernel_rfl, by kernel_rfl, Try.underlying5, fun z h => by cases h; exact ⟨fun F => by kernel_rfl, fun F L => by simp [DV.Ok, DVs.Ok]⟩, fun _ => ⟨Try.t5, _, by kernel_rfl, rfl, by decide, rfl, rfl, by kernel_rfl, fun zd h F => by cases h; kernel_rfl⟩⟩
def ti9 : TyI := ⟨.str, 1, false, some (.str ByteArray.empty), true⟩
theorem tyOk9 : TyOk Try.prog 9 ti9 := ⟨by kernel_rfl, by kernel_rfl, Try.underlying9, fun z h => by cases h; exact ⟨fun F => by kernel_rfl, fun F L => by simp [DV.Ok, DVs.Ok]⟩, fun _ => ⟨Try.t9, _, by kernel_rfl, rfl, by decide, rfl, rfl, by kernel_rfl, fun zd h F => by cases h⟩⟩
def ti12 : TyI := ⟨.int .u64, 1, true, some (.int .u64 (0 : Int)), true⟩
theorem tyOk12 : TyOk Try.prog 12 ti12 := ⟨by kernel_rfl, by kernel_rfl, Try.underlying12, fun z h => by cases h; exact ⟨fun F => by kernel_rfl, fun F L => by simp [DV.Ok, DVs.Ok]⟩, fun _ => ⟨Try.t12, _, by kernel_rfl, rfl, by decide, rfl, rfl, by kernel_rfl, fun zd h F => by cases h; kernel_rfl⟩⟩
def ti13 : TyI := ⟨.struct [(0, 9), (1, 12)], 2, false, some (.agg [.str ByteArray.empty, .int .u64 (0 : Int)]), true⟩
theorem tyOk13 : TyOk Try.prog 13 ti13 := ⟨by kernel_rfl, by kernel_rfl, ⟨⟨_, Try.underlying13, by kernel_rfl⟩, fun k q h => by
    rcases k with _ | _ | k
    · cases h; kernel_rfl
    · cases h; kernel_rfl
    · simp at h⟩, fun z h => by cases h; exact ⟨fun F => by kernel_rfl, fun F L => by simp [DV.Ok, DVs.Ok]⟩, fun _ => ⟨Try.t13, _, by kernel_rfl, rfl, by decide, rfl, rfl, by kernel_rfl, fun zd h F => by cases h⟩⟩
def ti19 : TyI := ⟨.struct [(0, 17)], 1, false, some (.agg [.nilptr]), true⟩
theorem tyOk19 : TyOk Try.prog 19 ti19 := ⟨by kernel_rfl, by kernel_rfl, ⟨⟨_, Try.underlying19, by kernel_rfl⟩, fun k q h => by
    rcases k with _ | k
    · cases h; kernel_rfl
    · simp at h⟩, fun z h => by cases h; exact ⟨fun F => by kernel_rfl, fun F L => by simp [DV.Ok, DVs.Ok]⟩, fun _ => ⟨Try.t19, _, by kernel_rfl, rfl, by decide, rfl, rfl, by kernel_rfl, fun zd h F => by cases h⟩⟩
def ti21 : TyI := ⟨.int .i32, 1, true, some (.int .i32 (0 : Int)), true⟩
theorem tyOk21 : TyOk Try.prog 21 ti21 := ⟨by kernel_rfl, by kernel_rfl, Try.underlying21, fun z h => by cases h; exact ⟨fun F => by kernel_rfl, fun F L => by simp [DV.Ok, DVs.Ok]⟩, fun _ => ⟨Try.t21, _, by kernel_rfl, rfl, by decide, rfl, rfl, by kernel_rfl, fun zd h F => by cases h; kernel_rfl⟩⟩
def ti22 : TyI := ⟨.slice 5, 1, false, some (.nilslc), true⟩
theorem tyOk22 : TyOk Try.prog 22 ti22 := ⟨by kernel_rfl, by kernel_rfl, Try.underlying22, fun z h => by cases h; exact ⟨fun F => by kernel_rfl, fun F L => by simp [DV.Ok, DVs.Ok]⟩, fun _ => ⟨Try.t22, _, by kernel_rfl, rfl, by decide, rfl, rfl, by kernel_rfl, fun zd h F => by cases h⟩⟩
def ti23 : TyI := ⟨.other, 1, false, some (.nilfn), false⟩
theorem tyOk23 : TyOk Try.prog 23 ti23 := ⟨by kernel_rfl, by kernel_rfl, ⟨_, Try.underlying23, rfl⟩, fun z h => by cases h; exact ⟨fun F => by kernel_rfl, fun F L => by simp [DV.Ok, DVs.Ok]⟩, fun h => by cases h⟩
def ti24 : TyI := ⟨.slice 28, 1, false, some (.nilslc), true⟩
theorem tyOk24 : TyOk Try.prog 24 ti24 := ⟨by kernel_rfl, by kernel_rfl, Try.underlying24, fun z h => by cases h; exact ⟨fun F => by kernel_rfl, fun F L => by simp [DV.Ok, DVs.Ok]⟩, fun _ => ⟨Try.t24, _, by kernel_rfl, rfl, by decide, rfl, rfl, by kernel_rfl, fun zd h F => by cases h⟩⟩
def ti25 : TyI := ⟨.struct [(0, 2), (1, 2), (2, 24)], 3, false, some (.agg [.int .i64 (0 : Int), .int .i64 (0 : Int), .nilslc]), true⟩
theorem tyOk25 : TyOk Try.prog 25 ti25 := ⟨by kernel_rfl, by kernel_rfl, ⟨⟨_, Try.underlying25, by kernel_rfl⟩, fun k q h => by
    rcases k with _ | _ | _ | k
    · cases h; kernel_rfl
    · cases h; kernel_rfl
    · cases h; kernel_rfl
    · simp at h⟩, fun z h => by cases h; exact ⟨fun F => by kernel_rfl, fun F L => by simp [DV.Ok, DVs.Ok]⟩, fun _ => ⟨Try.t25, _, by kernel_rfl, rfl, by decide, rfl, rfl, by kernel_rfl, fun zd h F => by cases h⟩⟩
def ti26 : TyI := ⟨.struct [(0, 2), (1, 2), (2, 24)], 3, false, some (.agg [.int .i64 (0 : Int), .int .i64 (0 : Int), .nilslc]), true⟩
theorem tyOk26 : TyOk Try.prog 26 ti26 := ⟨by kernel_rfl, by kernel_rfl, ⟨⟨_, Try.underlying26, by kernel_rfl⟩, fun k q h => by
    rcases k with _ | _ | _ | k
    · cases h; kernel_rfl
    · cases h; kernel_rfl
    · cases h; kernel_rfl
    · simp at h⟩, fun z h => by cases h; exact ⟨fun F => by kernel_rfl, fun F L => by simp [DV.Ok, DVs.Ok]⟩, fun _ => ⟨Try.t26, _, by kernel_rfl, rfl, by decide, rfl, rfl, by kernel_rfl, fun zd h F => by cases h⟩⟩
def ti27 : TyI := ⟨.other, 1, false, some (.nilfn), false⟩
theorem tyOk27 : TyOk Try.prog 27 ti27 := ⟨by kernel_rfl, by kernel_rfl, ⟨_, Try.underlying27, rfl⟩, fun z h => by cases h; exact ⟨fun F => by kernel_rfl, fun F L => by simp [DV.Ok, DVs.Ok]⟩, fun h => by cases h⟩
def ti28 : TyI := ⟨.flt .f32, 1, true, some (.flt .f32 (0 : Nat)), true⟩
theorem tyOk28 : TyOk Try.prog 28 ti28 := ⟨by kernel_rfl, by kernel_rfl, Try.underlying28, fun z h => by cases h; exact ⟨fun F => by kernel_rfl, fun F L => by simp [DV.Ok, DVs.Ok]⟩, fun _ => ⟨Try.t28, _, by kernel_rfl, rfl, by decide, rfl, rfl, by kernel_rfl, fun zd h F => by cases h; kernel_rfl⟩⟩
def ti30 : TyI := ⟨.other, 1, false, some (.nilfn), false⟩
theorem tyOk30 : TyOk Try.prog 30 ti30 := ⟨by kernel_rfl, by kernel_rfl, ⟨_, Try.underlying30, rfl⟩, fun z h => by cases h; exact ⟨fun F => by kernel_rfl, fun F L => by simp [DV.Ok, DVs.Ok]⟩, fun h => by cases h⟩
def ti32 : TyI := ⟨.other, 1, false, some (.nilfn), false⟩
theorem tyOk32 : TyOk Try.prog 32 ti32 := ⟨by kernel_rfl, by kernel_rfl, ⟨_, Try.underlying32, rfl⟩, fun z h => by cases h; exact ⟨fun F => by kernel_rfl, fun F L => by simp [DV.Ok, DVs.Ok]⟩, fun h => by cases h⟩
def ti33 : TyI := ⟨.other, 1, false, some (.nilfn), false⟩
theorem tyOk33 : TyOk Try.prog 33 ti33 := ⟨by kernel_rfl, by kernel_rfl, ⟨_, Try.underlying33, rfl⟩, fun z h => by cases h; exact ⟨fun F => by kernel_rfl, fun F L => by simp [DV.Ok, DVs.Ok]⟩, fun h => by cases h⟩
def ti35 : TyI := ⟨.other, 1, false, some (.nilfn), false⟩
theorem tyOk35 : TyOk Try.prog 35 ti35 := ⟨by kernel_rfl, by kernel_rfl, ⟨_, Try.underlying35, rfl⟩, fun z h => by cases h; exact ⟨fun F => by kernel_rfl, fun F L => by simp [DV.Ok, DVs.Ok]⟩, fun h => by cases h⟩
def ti36 : TyI := ⟨.flt .f64, 1, true, some (.flt .f64 (0 : Nat)), true⟩
theorem tyOk36 : TyOk Try.prog 36 ti36 := ⟨by kernel_rfl, by kernel_rfl, Try.underlying36, fun z h => by cases h; exact ⟨fun F => by kernel_rfl, fun F L => by simp [DV.Ok, DVs.Ok]⟩, fun _ => ⟨Try.t36, _, by kernel_rfl, rfl, by decide, rfl, rfl, by kernel_rfl, fun zd h F => by cases h; kernel_rfl⟩⟩
def ti37 : TyI := ⟨.other, 1, false, some (.nilfn), false⟩
theorem tyOk37 : TyOk Try.prog 37 ti37 := ⟨by kernel_rfl, by kernel_rfl, ⟨_, Try.underlying37, rfl⟩, fun z h => by cases h; exact ⟨fun F => by kernel_rfl, fun F L => by simp [DV.Ok, DVs.Ok]⟩, fun h => by cases h⟩
def ti38 : TyI := ⟨.other, 1, false, some (.nilfn), false⟩
theorem tyOk38 : TyOk Try.prog 38 ti38 := ⟨by kernel_rfl, by kernel_rfl, ⟨_, Try.underlying38, rfl⟩, fun z h => by cases h; exact ⟨fun F => by kernel_rfl, fun F L => by simp [DV.Ok, DVs.Ok]⟩, fun h => by cases h⟩
def ti40 : TyI := ⟨.other, 1, false, some (.nilfn), false⟩
theorem tyOk40 : TyOk Try.prog 40 ti40 := ⟨by kernel_rfl, by kernel_rfl, ⟨_, Try.underlying40, rfl⟩, fun z h => by cases h; exact ⟨fun F => by kernel_rfl, fun F L => by simp [DV.Ok, DVs.Ok]⟩, fun h => by cases h⟩
def ti41 : TyI := ⟨.other, 1, false, some (.nilfn), false⟩
theorem tyOk41 : TyOk Try.prog 41 ti41 := ⟨by kernel_rfl, by kernel_rfl, ⟨_, Try.underlying41, rfl⟩, fun z h => by cases h; exact ⟨fun F => by kernel_rfl, fun F L => by simp [DV.Ok, DVs.Ok]⟩, fun h => by cases h⟩
def ti42 : TyI := ⟨.other, 1, false, some (.nilfn), false⟩
theorem tyOk42 : TyOk Try.prog 42 ti42 := ⟨by kernel_rfl, by kernel_rfl, ⟨_, Try.underlying42, rfl⟩, fun z h => by cases h; exact ⟨fun F => by kernel_rfl, fun F L => by simp [DV.Ok, DVs.Ok]⟩, fun h => by cases h⟩
def ti43 : TyI := ⟨.other, 1, false, some (.nilfn), false⟩
theorem tyOk43 : TyOk Try.prog 43 ti43 := ⟨by kernel_rfl, by kernel_rfl, ⟨_, Try.underlying43, rfl⟩, fun z h => by cases h; exact ⟨fun F => by kernel_rfl, fun F L => by simp [DV.Ok, DVs.Ok]⟩, fun h => by cases h⟩
def ti44 : TyI := ⟨.other, 1, false, some (.nilptr), false⟩
theorem tyOk44 : TyOk Try.prog 44 ti44 := ⟨by kernel_rfl, by kernel_rfl, ⟨_, Try.underlying44, rfl⟩, fun z h => by cases h; exact ⟨fun F => by kernel_rfl, fun F L => by simp [DV.Ok, DVs.Ok]⟩, fun h => by cases h⟩
def ti45 : TyI := ⟨.other, 1, false, some (.nilfn), false⟩
theorem tyOk45 : TyOk Try.prog 45 ti45 := ⟨by kernel_rfl, by kernel_rfl, ⟨_, Try.underlying45, rfl⟩, fun z h => by cases h; exact ⟨fun F => by kernel_rfl, fun F L => by simp [DV.Ok, DVs.Ok]⟩, fun h => by cases h⟩
def ti46 : TyI := ⟨.other, 1, false, some (.nilfn), false⟩
theorem tyOk46 : TyOk Try.prog 46 ti46 := ⟨by kernel_rfl, by kernel_rfl, ⟨_, Try.underlying46, rfl⟩, fun z h => by cases h; exact ⟨fun F => by kernel_rfl, fun F L => by simp [DV.Ok, DVs.Ok]⟩, fun h => by cases h⟩
def ti47 : TyI := ⟨.other, 1, false, some (.nilfn), false⟩
theorem tyOk47 : TyOk Try.prog 47 ti47 := ⟨by kernel_rfl, by kernel_rfl, ⟨_, Try.underlying47, rfl⟩, fun z h => by cases h; exact ⟨fun F => by kernel_rfl, fun F L => by simp [DV.Ok, DVs.Ok]⟩, fun h => by cases h⟩
def ti48 : TyI := ⟨.other, 1, false, some (.nilfn), false⟩
theorem tyOk48 : TyOk Try.prog 48 ti48 := ⟨by kernel_rfl, by kernel_rfl, ⟨_, Try.underlying48, rfl⟩, fun z h => by cases h; exact ⟨fun F => by kernel_rfl, fun F L => by simp [DV.Ok, DVs.Ok]⟩, fun h => by cases h⟩
def ti49 : TyI := ⟨.other, 1, false, some (.nilfn), false⟩
theorem tyOk49 : TyOk Try.prog 49 ti49 := ⟨by kernel_rfl, by kernel_rfl, ⟨_, Try.underlying49, rfl⟩, fun z h => by cases h; exact ⟨fun F => by kernel_rfl, fun F L => by simp [DV.Ok, DVs.Ok]⟩, fun h => by cases h⟩
def ti50 : TyI := ⟨.other, 1, false, some (.nilfn), false⟩
theorem tyOk50 : TyOk Try.prog 50 ti50 := ⟨by kernel_rfl, by kernel_rfl, ⟨_, Try.underlying50, rfl⟩, fun z h => by cases h; exact ⟨fun F => by kernel_rfl, fun F L => by simp [DV.Ok, DVs.Ok]⟩, fun h => by cases h⟩
def ti51 : TyI := ⟨.other, 1, false, some (.nilfn), false⟩
theorem tyOk51 : TyOk Try.prog 51 ti51 := ⟨by kernel_rfl, by kernel_rfl, ⟨_, Try.underlying51, rfl⟩, fun z h => by cases h; exact ⟨fun F => by kernel_rfl, fun F L => by simp [DV.Ok, DVs.Ok]⟩, fun h => by cases h⟩
def ti52 : TyI := ⟨.other, 1, false, some (.nilfn), false⟩
theorem tyOk52 : TyOk Try.prog 52 ti52 := ⟨by kernel_rfl, by kernel_rfl, ⟨_, Try.underlying52, rfl⟩, fun z h => by cases h; exact ⟨fun F => by kernel_rfl, fun F L => by simp [DV.Ok, DVs.Ok]⟩, fun h => by cases h⟩
def ti53 : TyI := ⟨.other, 1, false, some (.nilfn), false⟩
theorem tyOk53 : TyOk Try.prog 53 ti53 := ⟨by kernel_rfl, by kernel_rfl, ⟨_, Try.underlying53, rfl⟩, fun z h => by cases h; exact ⟨fun F => by kernel_rfl, fun F L => by simp [DV.Ok, DVs.Ok]⟩, fun h => by cases h⟩
def ti54 : TyI := ⟨.other, 1, false, some (.nilfn), false⟩
theorem tyOk54 : TyOk Try.prog 54 ti54 := ⟨by kernel_rfl, by kernel_rfl, ⟨_, Try.underlying54, rfl⟩, fun z h => by cases h; exact ⟨fun F => by kernel_rfl, fun F L => by simp [DV.Ok, DVs.Ok]⟩, fun h => by cases h⟩
def ti55 : TyI := ⟨.other, 1, false, some (.nilfn), false⟩
theorem tyOk55 : TyOk Try.prog 55 ti55 := ⟨by kernel_rfl, by kernel_rfl, ⟨_, Try.underlying55, rfl⟩, fun z h => by cases h; exact ⟨fun F => by kernel_rfl, fun F L => by simp [DV.Ok, DVs.Ok]⟩, fun h => by cases h⟩
def ti56 : TyI := ⟨.other, 1, false, some (.nilfn), false⟩
theorem tyOk56 : TyOk Try.prog 56 ti56 := ⟨by kernel_rfl, by kernel_rfl, ⟨_, Try.underlying56, rfl⟩, fun z h => by cases h; exact ⟨fun F => by kernel_rfl, fun F L => by simp [DV.Ok, DVs.Ok]⟩, fun h => by cases h⟩
def ti57 : TyI := ⟨.other, 1, false, some (.nilfn), false⟩
theorem tyOk57 : TyOk Try.prog 57 ti57 := ⟨by kernel_rfl, by kernel_rfl, ⟨_, Try.underlying57, rfl⟩, fun z h => by cases h; exact ⟨fun F => by kernel_rfl, fun F L => by simp [DV.Ok, DVs.Ok]⟩, fun h => by cases h⟩
def ti58 : TyI := ⟨.other, 1, false, some (.nilfn), false⟩
theorem tyOk58 : TyOk Try.prog 58 ti58 := ⟨by kernel_rfl, by kernel_rfl, ⟨_, Try.underlying58, rfl⟩, fun z h => by cases h; exact ⟨fun F => by kernel_rfl, fun F L => by simp [DV.Ok, DVs.Ok]⟩, fun h => by cases h⟩
def ti59 : TyI := ⟨.other, 1, false, some (.nilfn), false⟩
theorem tyOk59 : TyOk Try.prog 59 ti59 := ⟨by kernel_rfl, by kernel_rfl, ⟨_, Try.underlying59, rfl⟩, fun z h => by cases h; exact ⟨fun F => by kernel_rfl, fun F L => by simp [DV.Ok, DVs.Ok]⟩, fun h => by cases h⟩
def ti60 : TyI := ⟨.other, 1, false, some (.nilfn), false⟩
theorem tyOk60 : TyOk Try.prog 60 ti60 := ⟨by kernel_rfl, by kernel_rfl, ⟨_, Try.underlying60, rfl⟩, fun z h => by cases h; exact ⟨fun F => by kernel_rfl, fun F L => by simp [DV.Ok, DVs.Ok]⟩, fun h => by cases h⟩
def ti61 : TyI := ⟨.int .u64, 1, true, some (.int .u64 (0 : Int)), true⟩
theorem tyOk61 : TyOk Try.prog 61 ti61 := ⟨by kernel_rfl, by kernel_rfl, Try.underlying61, fun z h => by cases h; exact ⟨fun F => by kernel_rfl, fun F L => by simp [DV.Ok, DVs.Ok]⟩, fun _ => ⟨Try.t61, _, by kernel_rfl, rfl, by decide, rfl, rfl, by kernel_rfl, fun zd h F => by cases h; kernel_rfl⟩⟩
def ti62 : TyI := ⟨.struct [(0, 22), (1, 3), (2, 61)], 3, false, some (.agg [.nilslc, .int .i64 (0 : Int), .int .u64 (0 : Int)]), true⟩
theorem tyOk62 : TyOk Try.prog 62 ti62 := ⟨by kernel_rfl, by kernel_rfl, ⟨⟨_, Try.underlying62, by kernel_rfl⟩, fun k q h => by
    rcases k with _ | _ | _ | k
    · cases h; kernel_rfl
    · cases h; kernel_rfl
    · cases h; kernel_rfl
    · simp at h⟩, fun z h => by cases h; exact ⟨fun F => by kernel_rfl, fun F L => by simp [DV.Ok, DVs.Ok]⟩, fun _ => ⟨Try.t62, _, by kernel_rfl, rfl, by decide, rfl, rfl, by kernel_rfl, fun zd h F => by cases h⟩⟩
def ti63 : TyI := ⟨.struct [(0, 22), (1, 3), (2, 61)], 3, false, some (.agg [.nilslc, .int .i64 (0 : Int), .int .u64 (0 : Int)]), true⟩
theorem tyOk63 : TyOk Try.prog 63 ti63 := ⟨by kernel_rfl, by kernel_rfl, ⟨⟨_, Try.underlying63, by kernel_rfl⟩, fun k q h => by
    rcases k with _ | _ | _ | k
    · cases h; kernel_rfl
    · cases h; kernel_rfl
    · cases h; kernel_rfl
    · simp at h⟩, fun z h => by cases h; exact ⟨fun F => by kernel_rfl, fun F L => by simp [DV.Ok, DVs.Ok]⟩, fun _ => ⟨Try.t63, _, by kernel_rfl, rfl, by decide, rfl, rfl, by kernel_rfl, fun zd h F => by cases h⟩⟩
def ti64 : TyI := ⟨.other, 1, false, some (.nilfn), false⟩
theorem tyOk64 : TyOk Try.prog 64 ti64 := ⟨by kernel_rfl, by kernel_rfl, ⟨_, Try.underlying64, rfl⟩, fun z h => by cases h; exact ⟨fun F => by kernel_rfl, fun F L => by simp [DV.Ok, DVs.Ok]⟩, fun h => by cases h⟩
def ti65 : TyI := ⟨.other, 1, false, some (.nilfn), false⟩
theorem tyOk65 : TyOk Try.prog 65 ti65 := ⟨by kernel_rfl, by kernel_rfl, ⟨_, Try.underlying65, rfl⟩, fun z h => by cases h; exact ⟨fun F => by kernel_rfl, fun F L => by simp [DV.Ok, DVs.Ok]⟩, fun h => by cases h⟩
def ti66 : TyI := ⟨.other, 1, false, some (.nilfn), false⟩
theorem tyOk66 : TyOk Try.prog 66 ti66 := ⟨by kernel_rfl, by kernel_rfl, ⟨_, Try.underlying66, rfl⟩, fun z h => by cases h; exact ⟨fun F => by kernel_rfl, fun F L => by simp [DV.Ok, DVs.Ok]⟩, fun h => by cases h⟩
def ti67 : TyI := ⟨.other, 1, false, some (.nilfn), false⟩
theorem tyOk67 : TyOk Try.prog 67 ti67 := ⟨by kernel_rfl, by kernel_rfl, ⟨_, Try.underlying67, rfl⟩, fun z h => by cases h; exact ⟨fun F => by kernel_rfl, fun F L => by simp [DV.Ok, DVs.Ok]⟩, fun h => by cases h⟩
def ti68 : TyI := ⟨.other, 1, false, some (.nilfn), false⟩
theorem tyOk68 : TyOk Try.prog 68 ti68 := ⟨by kernel_rfl, by kernel_rfl, ⟨_, Try.underlying68, rfl⟩, fun z h => by cases h; exact ⟨fun F => by kernel_rfl, fun F L => by simp [DV.Ok, DVs.Ok]⟩, fun h => by cases h⟩
def ti69 : TyI := ⟨.other, 1, false, some (.nilfn), false⟩
theorem tyOk69 : TyOk Try.prog 69 ti69 := ⟨by kernel_rfl, by kernel_rfl, ⟨_, Try.underlying69, rfl⟩, fun z h => by cases h; exact ⟨fun F => by kernel_rfl, fun F L => by simp [DV.Ok, DVs.Ok]⟩, fun h => by cases h⟩
def ti70 : TyI := ⟨.other, 1, false, some (.nilfn), false⟩
theorem tyOk70 : TyOk Try.prog 70 ti70 := ⟨by kernel_rfl, by kernel_rfl, ⟨_, Try.underlying70, rfl⟩, fun z h => by cases h; exact ⟨fun F => by kernel_rfl, fun F L => by simp [DV.Ok, DVs.Ok]⟩, fun h => by cases h⟩
def ti71 : TyI := ⟨.other, 1, false, some (.nilfn), false⟩
theorem tyOk71 : TyOk Try.prog 71 ti71 := ⟨by kernel_rfl, by kernel_rfl, ⟨_, Try.underlying71, rfl⟩, fun z h => by cases h; exact ⟨fun F => by kernel_rfl, fun F L => by simp [DV.Ok, DVs.Ok]⟩, fun h => by cases h⟩
def ti72 : TyI := ⟨.other, 1, false, some (.nilfn), false⟩
theorem tyOk72 : TyOk Try.prog 72 ti72 := ⟨by kernel_rfl, by kernel_rfl, ⟨_, Try.underlying72, rfl⟩, fun z h => by cases h; exact ⟨fun F => by kernel_rfl, fun F L => by simp [DV.Ok, DVs.Ok]⟩, fun h => by cases h⟩
def ti73 : TyI := ⟨.other, 1, false, some (.nilfn), false⟩
theorem tyOk73 : TyOk Try.prog 73 ti73 := ⟨by kernel_rfl, by kernel_rfl, ⟨_, Try.underlying73, rfl⟩, fun z h => by cases h; exact ⟨fun F => by kernel_rfl, fun F L => by simp [DV.Ok, DVs.Ok]⟩, fun h => by cases h⟩
def ti74 : TyI := ⟨.other, 1, false, some (.nilfn), false⟩
theorem tyOk74 : TyOk Try.prog 74 ti74 := ⟨by kernel_rfl, by kernel_rfl, ⟨_, Try.underlying74, rfl⟩, fun z h => by cases h; exact ⟨fun F => by kernel_rfl, fun F L => by simp [DV.Ok, DVs.Ok]⟩, fun h => by cases h⟩
def ti75 : TyI := ⟨.other, 1, false, some (.nilfn), false⟩
theorem tyOk75 : TyOk Try.prog 75 ti75 := ⟨by kernel_rfl, by kernel_rfl, ⟨_, Try.underlying75, rfl⟩, fun z h => by cases h; exact ⟨fun F => by kernel_rfl, fun F L => by simp [DV.Ok, DVs.Ok]⟩, fun h => by cases h⟩
def ti76 : TyI := ⟨.other, 1, false, some (.nilfn), false⟩
theorem tyOk76 : TyOk Try.prog 76 ti76 := ⟨by kernel_rfl, by kernel_rfl, ⟨_, Try.underlying76, rfl⟩, fun z h => by cases h; exact ⟨fun F => by kernel_rfl, fun F L => by simp [DV.Ok, DVs.Ok]⟩, fun h => by cases h⟩
def ti77 : TyI := ⟨.other, 1, false, some (.nilfn), false⟩
theorem tyOk77 : TyOk Try.prog 77 ti77 := ⟨by kernel_rfl, by kernel_rfl, ⟨_, Try.underlying77, rfl⟩, fun z h => by cases h; exact ⟨fun F => by kernel_rfl, fun F L => by simp [DV.Ok, DVs.Ok]⟩, fun h => by cases h⟩
def ti78 : TyI := ⟨.other, 1, false, some (.nilfn), false⟩
theorem tyOk78 : TyOk Try.prog 78 ti78 := ⟨by kernel_rfl, by kernel_rfl, ⟨_, Try.underlying78, rfl⟩, fun z h => by cases h; exact ⟨fun F => by kernel_rfl, fun F L => by simp [DV.Ok, DVs.Ok]⟩, fun h => by cases h⟩
def ti79 : TyI := ⟨.other, 1, false, some (.nilfn), false⟩
theorem tyOk79 : TyOk Try.prog 79 ti79 := ⟨by kernel_rfl, by kernel_rfl, ⟨_, Try.underlying79, rfl⟩, fun z h => by cases h; exact ⟨fun F => by kernel_rfl, fun F L => by simp [DV.Ok, DVs.Ok]⟩, fun h => by cases h⟩
def ti80 : TyI := ⟨.int .u64, 1, true, some (.int .u64 (0 : Int)), true⟩
theorem tyOk80 : TyOk Try.prog 80 ti80 := ⟨by kernel_rfl, by kernel_rfl, Try.underlying80, fun z h => by cases h; exact ⟨fun F => by kernel_rfl, fun F L => by simp [DV.Ok, DVs.Ok]⟩, fun _ => ⟨Try.t80, _, by kernel_rfl, rfl, by decide, rfl, rfl, by kernel_rfl, fun zd h F => by cases h; kernel_rfl⟩⟩
def ti81 : TyI := ⟨.other, 1, false, some (.nilfn), false⟩
theorem tyOk81 : TyOk Try.prog 81 ti81 := ⟨by kernel_rfl, by kernel_rfl, ⟨_, Try.underlying81, rfl⟩, fun z h => by cases h; exact ⟨fun F => by kernel_rfl, fun F L => by simp [DV.Ok, DVs.Ok]⟩, fun h => by cases h⟩
def ti82 : TyI := ⟨.other, 1, false, some (.nilfn), false⟩
theorem tyOk82 : TyOk Try.prog 82 ti82 := ⟨by kernel_rfl, by kernel_rfl, ⟨_, Try.underlying82, rfl⟩, fun z h => by cases h; exact ⟨fun F => by kernel_rfl, fun F L => by simp [DV.Ok, DVs.Ok]⟩, fun h => by cases h⟩
def ti83 : TyI := ⟨.other, 1, false, some (.nilfn), false⟩
theorem tyOk83 : TyOk Try.prog 83 ti83 := ⟨by kernel_rfl, by kernel_rfl, ⟨_, Try.underlying83, rfl⟩, fun z h => by cases h; exact ⟨fun F => by kernel_rfl, fun F L => by simp [DV.Ok, DVs.Ok]⟩, fun h => by cases h⟩
def ti84 : TyI := ⟨.other, 1, false, some (.nilfn), false⟩
theorem tyOk84 : TyOk Try.prog 84 ti84 := ⟨by kernel_rfl, by kernel_rfl, ⟨_, Try.underlying84, rfl⟩, fun z h => by cases h; exact ⟨fun F => by kernel_rfl, fun F L => by simp [DV.Ok, DVs.Ok]⟩, fun h => by cases h⟩
def ti85 : TyI := ⟨.other, 1, false, some (.nilfn), false⟩
theorem tyOk85 : TyOk Try.prog 85 ti85 := ⟨by kernel_rfl, by kernel_rfl, ⟨_, Try.underlying85, rfl⟩, fun z h => by cases h; exact ⟨fun F => by kernel_rfl, fun F L => by simp [DV.Ok, DVs.Ok]⟩, fun h => by cases h⟩
def ti91 : TyI := ⟨.other, 1, false, some (.nilfn), false⟩
theorem tyOk91 : TyOk Try.prog 91 ti91 := ⟨by kernel_rfl, by kernel_rfl, ⟨_, Try.underlying91, rfl⟩, fun z h => by cases h; exact ⟨fun F => by kernel_rfl, fun F L => by simp [DV.Ok, DVs.Ok]⟩, fun h => by cases h⟩
def ti92 : TyI := ⟨.int .u32, 1, true, some (.int .u32 (0 : Int)), true⟩
theorem tyOk92 : TyOk Try.prog 92 ti92 := ⟨by kernel_rfl, by kernel_rfl, Try.underlying92, fun z h => by cases h; exact ⟨fun F => by kernel_rfl, fun F L => by simp [DV.Ok, DVs.Ok]⟩, fun _ => ⟨Try.t92, _, by kernel_rfl, rfl, by decide, rfl, rfl, by kernel_rfl, fun zd h F => by cases h; kernel_rfl⟩⟩
def ti95 : TyI := ⟨.other, 1, false, some (.nilfn), false⟩
theorem tyOk95 : TyOk Try.prog 95 ti95 := ⟨by kernel_rfl, by kernel_rfl, ⟨_, Try.underlying95, rfl⟩, fun z h => by cases h; exact ⟨fun F => by kernel_rfl, fun F L => by simp [DV.Ok, DVs.Ok]⟩, fun h => by cases h⟩
def ti96 : TyI := ⟨.other, 1, false, some (.nilptr), false⟩
theorem tyOk96 : TyOk Try.prog 96 ti96 := ⟨by kernel_rfl, by kernel_rfl, ⟨_, Try.underlying96, rfl⟩, fun z h => by cases h; exact ⟨fun F => by kernel_rfl, fun F L => by simp [DV.Ok, DVs.Ok]⟩, fun h => by cases h⟩
def ti101 : TyI := ⟨.other, 1, false, some (.nilfn), false⟩
theorem tyOk101 : TyOk Try.prog 101 ti101 := ⟨by kernel_rfl, by kernel_rfl, ⟨_, Try.underlying101, rfl⟩, fun z h => by cases h; exact ⟨fun F => by kernel_rfl, fun F L => by simp [DV.Ok, DVs.Ok]⟩, fun h => by cases h⟩
def TTl : List (Option TyI) := [none, some ti1, some ti2, some ti3, some ti4, some ti5, none, none, none, some ti9, none, none, some ti12, some ti13, none, none, none, none, none, some ti19, none, some ti21, some ti22, some ti23, some ti24, some ti25, some ti26, some ti27, some ti28, none, some ti30, none, some ti32, some ti33, none, some ti35, some ti36, some ti37, some ti38, none, some ti40, some ti41, some ti42, some ti43, some ti44, some ti45, some ti46, some ti47, some ti48, some ti49, some ti50, some ti51, some ti52, some ti53, some ti54, some ti55, some ti56, some ti57, some ti58, some ti59, some ti60, some ti61, some ti62, some ti63, some ti64, some ti65, some ti66, some ti67, some ti68, some ti69, some ti70, some ti71, some ti72, some ti73, some ti74, some ti75, some ti76, some ti77, some ti78, some ti79, some ti80, some ti81, some ti82, some ti83, some ti84, some ti85, none, none, none, none, none, some ti91, some ti92, none, none, some ti95, some ti96, none, none, none, none, some ti101, none]
def TT : TyT := lookT TTl
theorem tok : TOk Try.prog TT := tok_of (show AllTy Try.prog 0 TTl from ⟨tyOk1, tyOk2, tyOk3, tyOk4, tyOk5, tyOk9, tyOk12, tyOk13, tyOk19, tyOk21, tyOk22, tyOk23, tyOk24, tyOk25, tyOk26, tyOk27, tyOk28, tyOk30, tyOk32, tyOk33, tyOk35, tyOk36, tyOk37, tyOk38, tyOk40, tyOk41, tyOk42, tyOk43, tyOk44, tyOk45, tyOk46, tyOk47, tyOk48, tyOk49, tyOk50, tyOk51, tyOk52, tyOk53, tyOk54, tyOk55, tyOk56, tyOk57, tyOk58, tyOk59, tyOk60, tyOk61, tyOk62, tyOk63, tyOk64, tyOk65, tyOk66, tyOk67, tyOk68, tyOk69, tyOk70, tyOk71, tyOk72, tyOk73, tyOk74, tyOk75, tyOk76, tyOk77, tyOk78, tyOk79, tyOk80, tyOk81, tyOk82, tyOk83, tyOk84, tyOk85, tyOk91, tyOk92, tyOk95, tyOk96, tyOk101, trivial⟩)
theorem mixed : Try.prog.follows .mixedOrders = true := by kernel_rfl
end Go.Proofs.Ytbnakafnaeafiaa.AM
