/- The types of this seat's program, as the machine asks for them. -/
import Derived.Test.YtooakheodgndaaaD23
import Derived.Test.YtooakheodgndaaaProg
set_option maxRecDepth 100000
set_option maxHeartbeats 4000000
set_option linter.unusedSimpArgs false
set_option linter.unusedVariables false
namespace Go.Proofs.Ytooakheodgndaaa.AM
open Go.Proofs
def ti2 : TyI := ⟨.int .i64, 1, true, some (.int .i64 (0 : Int)), true⟩
theorem tyOk2 : TyOk Try.prog 2 ti2 := ⟨by kernel_rfl, by kernel_rfl, Try.underlying2, fun z h => by cases h; exact ⟨fun F => by kernel_rfl, fun F L => by simp [DV.Ok, DVs.Ok]⟩, fun _ _ => ⟨Try.t2, _, by kernel_rfl, rfl, by decide, rfl, rfl, by kernel_rfl, fun zd h F => by cases h; kernel_rfl⟩⟩
def ti3 : TyI := ⟨.int .i64, 1, true, some (.int .i64 (0 : Int)), true⟩
theorem tyOk3 : TyOk Try.prog 3 ti3 := ⟨by kernel_rfl, by kernel_rfl, Try.underlying3, fun z h => by cases h; exact ⟨fun F => by kernel_rfl, fun F L => by simp [DV.Ok, DVs.Ok]⟩, fun _ _ => ⟨Try.t3, _, by kernel_rfl, rfl, by decide, rfl, rfl, by kernel_rfl, fun zd h F => by cases h; kernel_rfl⟩⟩
def ti4 : TyI := ⟨.bool, 1, true, some (.lit false), true⟩
theorem tyOk4 : TyOk Try.prog 4 ti4 := ⟨by kernel_rfl, by kernel_rfl, Try.underlying4, fun z h => by cases h; exact ⟨fun F => by kernel_rfl, fun F L => by simp [DV.Ok, DVs.Ok]⟩, fun _ _ => ⟨Try.t4, _, by kernel_rfl, rfl, by decide, rfl, rfl, by kernel_rfl, fun zd h F => by cases h; kernel_rfl⟩⟩
def ti5 : TyI := ⟨.int .u8, 1, true, some (.int .u8 (0 : Int)), true⟩
theorem tyOk5 : TyOk Try.prog 5 ti5 := ⟨by kernel_rfl, by kernel_rfl, Try.underlying5, fun z h => by cases h; exact ⟨fun F => by kernel_rfl, fun F L => by simp [DV.Ok, DVs.Ok]⟩, fun _ _ => ⟨Try.t5, _, by kernel_rfl, rfl, by decide, rfl, rfl, by kernel_rfl, fun zd h F => by cases h; kernel_rfl⟩⟩
def ti9 : TyI := ⟨.str, 1, false, some (.str ByteArray.empty), false⟩
theorem tyOk9 : TyOk Try.prog 9 ti9 := ⟨by kernel_rfl, by kernel_rfl, Try.underlying9, fun z h => by cases h; exact ⟨fun F => by kernel_rfl, fun F L => by simp [DV.Ok, DVs.Ok]⟩, fun h => by cases h⟩
def ti12 : TyI := ⟨.int .u64, 1, true, some (.int .u64 (0 : Int)), true⟩
theorem tyOk12 : TyOk Try.prog 12 ti12 := ⟨by kernel_rfl, by kernel_rfl, Try.underlying12, fun z h => by cases h; exact ⟨fun F => by kernel_rfl, fun F L => by simp [DV.Ok, DVs.Ok]⟩, fun _ _ => ⟨Try.t12, _, by kernel_rfl, rfl, by decide, rfl, rfl, by kernel_rfl, fun zd h F => by cases h; kernel_rfl⟩⟩
def ti13 : TyI := ⟨.struct [(0, 9), (1, 12)], 2, false, some (.agg [.str ByteArray.empty, .int .u64 (0 : Int)]), false⟩
theorem tyOk13 : TyOk Try.prog 13 ti13 := ⟨by kernel_rfl, by kernel_rfl, ⟨⟨_, Try.underlying13, by kernel_rfl⟩, fun k q h => by
    rcases k with _ | _ | k
    · cases h; kernel_rfl
    · cases h; kernel_rfl
    · simp at h⟩, fun z h => by cases h; exact ⟨fun F => by kernel_rfl, fun F L => by simp [DV.Ok, DVs.Ok]⟩, fun h => by cases h⟩
def ti19 : TyI := ⟨.struct [(0, 17)], 1, false, some (.agg [.nilptr]), false⟩
theorem tyOk19 : TyOk Try.prog 19 ti19 := ⟨by kernel_rfl, by kernel_rfl, ⟨⟨_, Try.underlying19, by kernel_rfl⟩, fun k q h => by
    rcases k with _ | k
    · cases h; kernel_rfl
    · simp at h⟩, fun z h => by cases h; exact ⟨fun F => by kernel_rfl, fun F L => by simp [DV.Ok, DVs.Ok]⟩, fun h => by cases h⟩
def ti21 : TyI := ⟨.int .i32, 1, true, some (.int .i32 (0 : Int)), true⟩
theorem tyOk21 : TyOk Try.prog 21 ti21 := ⟨by kernel_rfl, by kernel_rfl, Try.underlying21, fun z h => by cases h; exact ⟨fun F => by kernel_rfl, fun F L => by simp [DV.Ok, DVs.Ok]⟩, fun _ _ => ⟨Try.t21, _, by kernel_rfl, rfl, by decide, rfl, rfl, by kernel_rfl, fun zd h F => by cases h; kernel_rfl⟩⟩
def ti22 : TyI := ⟨.slice 38, 1, false, some (.nilslc), false⟩
theorem tyOk22 : TyOk Try.prog 22 ti22 := ⟨by kernel_rfl, by kernel_rfl, Try.underlying22, fun z h => by cases h; exact ⟨fun F => by kernel_rfl, fun F L => by simp [DV.Ok, DVs.Ok]⟩, fun h => by cases h⟩
def ti23 : TyI := ⟨.struct [(0, 2), (1, 2), (2, 22)], 3, false, some (.agg [.int .i64 (0 : Int), .int .i64 (0 : Int), .nilslc]), false⟩
theorem tyOk23 : TyOk Try.prog 23 ti23 := ⟨by kernel_rfl, by kernel_rfl, ⟨⟨_, Try.underlying23, by kernel_rfl⟩, fun k q h => by
    rcases k with _ | _ | _ | k
    · cases h; kernel_rfl
    · cases h; kernel_rfl
    · cases h; kernel_rfl
    · simp at h⟩, fun z h => by cases h; exact ⟨fun F => by kernel_rfl, fun F L => by simp [DV.Ok, DVs.Ok]⟩, fun h => by cases h⟩
def ti24 : TyI := ⟨.struct [(0, 2), (1, 2), (2, 22)], 3, false, some (.agg [.int .i64 (0 : Int), .int .i64 (0 : Int), .nilslc]), false⟩
theorem tyOk24 : TyOk Try.prog 24 ti24 := ⟨by kernel_rfl, by kernel_rfl, ⟨⟨_, Try.underlying24, by kernel_rfl⟩, fun k q h => by
    rcases k with _ | _ | _ | k
    · cases h; kernel_rfl
    · cases h; kernel_rfl
    · cases h; kernel_rfl
    · simp at h⟩, fun z h => by cases h; exact ⟨fun F => by kernel_rfl, fun F L => by simp [DV.Ok, DVs.Ok]⟩, fun h => by cases h⟩
def ti26 : TyI := ⟨.struct [(0, 2), (1, 2), (2, 22)], 3, false, some (.agg [.int .i64 (0 : Int), .int .i64 (0 : Int), .nilslc]), false⟩
theorem tyOk26 : TyOk Try.prog 26 ti26 := ⟨by kernel_rfl, by kernel_rfl, ⟨⟨_, Try.underlying26, by kernel_rfl⟩, fun k q h => by
    rcases k with _ | _ | _ | k
    · cases h; kernel_rfl
    · cases h; kernel_rfl
    · cases h; kernel_rfl
    · simp at h⟩, fun z h => by cases h; exact ⟨fun F => by kernel_rfl, fun F L => by simp [DV.Ok, DVs.Ok]⟩, fun h => by cases h⟩
def ti38 : TyI := ⟨.flt .f32, 1, true, some (.flt .f32 (0 : Nat)), true⟩
theorem tyOk38 : TyOk Try.prog 38 ti38 := ⟨by kernel_rfl, by kernel_rfl, Try.underlying38, fun z h => by cases h; exact ⟨fun F => by kernel_rfl, fun F L => by simp [DV.Ok, DVs.Ok]⟩, fun _ _ => ⟨Try.t38, _, by kernel_rfl, rfl, by decide, rfl, rfl, by kernel_rfl, fun zd h F => by cases h; kernel_rfl⟩⟩
def ti42 : TyI := ⟨.flt .f64, 1, true, some (.flt .f64 (0 : Nat)), true⟩
theorem tyOk42 : TyOk Try.prog 42 ti42 := ⟨by kernel_rfl, by kernel_rfl, Try.underlying42, fun z h => by cases h; exact ⟨fun F => by kernel_rfl, fun F L => by simp [DV.Ok, DVs.Ok]⟩, fun _ _ => ⟨Try.t42, _, by kernel_rfl, rfl, by decide, rfl, rfl, by kernel_rfl, fun zd h F => by cases h; kernel_rfl⟩⟩
def ti47 : TyI := ⟨.slice 2, 1, false, some (.nilslc), false⟩
theorem tyOk47 : TyOk Try.prog 47 ti47 := ⟨by kernel_rfl, by kernel_rfl, Try.underlying47, fun z h => by cases h; exact ⟨fun F => by kernel_rfl, fun F L => by simp [DV.Ok, DVs.Ok]⟩, fun h => by cases h⟩
def ti48 : TyI := ⟨.struct [(0, 2), (1, 2), (2, 47)], 3, false, some (.agg [.int .i64 (0 : Int), .int .i64 (0 : Int), .nilslc]), false⟩
theorem tyOk48 : TyOk Try.prog 48 ti48 := ⟨by kernel_rfl, by kernel_rfl, ⟨⟨_, Try.underlying48, by kernel_rfl⟩, fun k q h => by
    rcases k with _ | _ | _ | k
    · cases h; kernel_rfl
    · cases h; kernel_rfl
    · cases h; kernel_rfl
    · simp at h⟩, fun z h => by cases h; exact ⟨fun F => by kernel_rfl, fun F L => by simp [DV.Ok, DVs.Ok]⟩, fun h => by cases h⟩
def ti49 : TyI := ⟨.struct [(0, 2), (1, 2), (2, 47)], 3, false, some (.agg [.int .i64 (0 : Int), .int .i64 (0 : Int), .nilslc]), false⟩
theorem tyOk49 : TyOk Try.prog 49 ti49 := ⟨by kernel_rfl, by kernel_rfl, ⟨⟨_, Try.underlying49, by kernel_rfl⟩, fun k q h => by
    rcases k with _ | _ | _ | k
    · cases h; kernel_rfl
    · cases h; kernel_rfl
    · cases h; kernel_rfl
    · simp at h⟩, fun z h => by cases h; exact ⟨fun F => by kernel_rfl, fun F L => by simp [DV.Ok, DVs.Ok]⟩, fun h => by cases h⟩
def ti57 : TyI := ⟨.struct [(0, 22), (1, 22), (2, 22)], 3, false, some (.agg [.nilslc, .nilslc, .nilslc]), false⟩
theorem tyOk57 : TyOk Try.prog 57 ti57 := ⟨by kernel_rfl, by kernel_rfl, ⟨⟨_, Try.underlying57, by kernel_rfl⟩, fun k q h => by
    rcases k with _ | _ | _ | k
    · cases h; kernel_rfl
    · cases h; kernel_rfl
    · cases h; kernel_rfl
    · simp at h⟩, fun z h => by cases h; exact ⟨fun F => by kernel_rfl, fun F L => by simp [DV.Ok, DVs.Ok]⟩, fun h => by cases h⟩
def ti58 : TyI := ⟨.struct [(0, 22), (1, 22), (2, 22)], 3, false, some (.agg [.nilslc, .nilslc, .nilslc]), false⟩
theorem tyOk58 : TyOk Try.prog 58 ti58 := ⟨by kernel_rfl, by kernel_rfl, ⟨⟨_, Try.underlying58, by kernel_rfl⟩, fun k q h => by
    rcases k with _ | _ | _ | k
    · cases h; kernel_rfl
    · cases h; kernel_rfl
    · cases h; kernel_rfl
    · simp at h⟩, fun z h => by cases h; exact ⟨fun F => by kernel_rfl, fun F L => by simp [DV.Ok, DVs.Ok]⟩, fun h => by cases h⟩
def ti61 : TyI := ⟨.struct [(0, 22), (1, 22), (2, 22)], 3, false, some (.agg [.nilslc, .nilslc, .nilslc]), false⟩
theorem tyOk61 : TyOk Try.prog 61 ti61 := ⟨by kernel_rfl, by kernel_rfl, ⟨⟨_, Try.underlying61, by kernel_rfl⟩, fun k q h => by
    rcases k with _ | _ | _ | k
    · cases h; kernel_rfl
    · cases h; kernel_rfl
    · cases h; kernel_rfl
    · simp at h⟩, fun z h => by cases h; exact ⟨fun F => by kernel_rfl, fun F L => by simp [DV.Ok, DVs.Ok]⟩, fun h => by cases h⟩
def ti72 : TyI := ⟨.other, 1, false, some (.nilptr), false⟩
theorem tyOk72 : TyOk Try.prog 72 ti72 := ⟨by kernel_rfl, by kernel_rfl, ⟨_, Try.underlying72, rfl⟩, fun z h => by cases h; exact ⟨fun F => by kernel_rfl, fun F L => by simp [DV.Ok, DVs.Ok]⟩, fun h => by cases h⟩
def ti101 : TyI := ⟨.other, 1, false, some (.nilptr), false⟩
theorem tyOk101 : TyOk Try.prog 101 ti101 := ⟨by kernel_rfl, by kernel_rfl, ⟨_, Try.underlying101, rfl⟩, fun z h => by cases h; exact ⟨fun F => by kernel_rfl, fun F L => by simp [DV.Ok, DVs.Ok]⟩, fun h => by cases h⟩
def ti102 : TyI := ⟨.struct [(0, 22), (1, 22), (2, 38)], 3, false, some (.agg [.nilslc, .nilslc, .flt .f32 (0 : Nat)]), false⟩
theorem tyOk102 : TyOk Try.prog 102 ti102 := ⟨by kernel_rfl, by kernel_rfl, ⟨⟨_, Try.underlying102, by kernel_rfl⟩, fun k q h => by
    rcases k with _ | _ | _ | k
    · cases h; kernel_rfl
    · cases h; kernel_rfl
    · cases h; kernel_rfl
    · simp at h⟩, fun z h => by cases h; exact ⟨fun F => by kernel_rfl, fun F L => by simp [DV.Ok, DVs.Ok]⟩, fun h => by cases h⟩
def ti103 : TyI := ⟨.struct [(0, 22), (1, 22), (2, 38)], 3, false, some (.agg [.nilslc, .nilslc, .flt .f32 (0 : Nat)]), false⟩
theorem tyOk103 : TyOk Try.prog 103 ti103 := ⟨by kernel_rfl, by kernel_rfl, ⟨⟨_, Try.underlying103, by kernel_rfl⟩, fun k q h => by
    rcases k with _ | _ | _ | k
    · cases h; kernel_rfl
    · cases h; kernel_rfl
    · cases h; kernel_rfl
    · simp at h⟩, fun z h => by cases h; exact ⟨fun F => by kernel_rfl, fun F L => by simp [DV.Ok, DVs.Ok]⟩, fun h => by cases h⟩
def ti111 : TyI := ⟨.other, 1, false, some (.nilptr), false⟩
theorem tyOk111 : TyOk Try.prog 111 ti111 := ⟨by kernel_rfl, by kernel_rfl, ⟨_, Try.underlying111, rfl⟩, fun z h => by cases h; exact ⟨fun F => by kernel_rfl, fun F L => by simp [DV.Ok, DVs.Ok]⟩, fun h => by cases h⟩
def ti131 : TyI := ⟨.other, 1, false, some (.nilptr), false⟩
theorem tyOk131 : TyOk Try.prog 131 ti131 := ⟨by kernel_rfl, by kernel_rfl, ⟨_, Try.underlying131, rfl⟩, fun z h => by cases h; exact ⟨fun F => by kernel_rfl, fun F L => by simp [DV.Ok, DVs.Ok]⟩, fun h => by cases h⟩
def ti134 : TyI := ⟨.int .u64, 1, true, some (.int .u64 (0 : Int)), true⟩
theorem tyOk134 : TyOk Try.prog 134 ti134 := ⟨by kernel_rfl, by kernel_rfl, Try.underlying134, fun z h => by cases h; exact ⟨fun F => by kernel_rfl, fun F L => by simp [DV.Ok, DVs.Ok]⟩, fun _ _ => ⟨Try.t134, _, by kernel_rfl, rfl, by decide, rfl, rfl, by kernel_rfl, fun zd h F => by cases h; kernel_rfl⟩⟩
def ti153 : TyI := ⟨.int .u64, 1, true, some (.int .u64 (0 : Int)), true⟩
theorem tyOk153 : TyOk Try.prog 153 ti153 := ⟨by kernel_rfl, by kernel_rfl, Try.underlying153, fun z h => by cases h; exact ⟨fun F => by kernel_rfl, fun F L => by simp [DV.Ok, DVs.Ok]⟩, fun _ _ => ⟨Try.t153, _, by kernel_rfl, rfl, by decide, rfl, rfl, by kernel_rfl, fun zd h F => by cases h; kernel_rfl⟩⟩
def ti161 : TyI := ⟨.int .u32, 1, true, some (.int .u32 (0 : Int)), true⟩
theorem tyOk161 : TyOk Try.prog 161 ti161 := ⟨by kernel_rfl, by kernel_rfl, Try.underlying161, fun z h => by cases h; exact ⟨fun F => by kernel_rfl, fun F L => by simp [DV.Ok, DVs.Ok]⟩, fun _ _ => ⟨Try.t161, _, by kernel_rfl, rfl, by decide, rfl, rfl, by kernel_rfl, fun zd h F => by cases h; kernel_rfl⟩⟩
def ti165 : TyI := ⟨.other, 1, false, some (.nilptr), false⟩
theorem tyOk165 : TyOk Try.prog 165 ti165 := ⟨by kernel_rfl, by kernel_rfl, ⟨_, Try.underlying165, rfl⟩, fun z h => by cases h; exact ⟨fun F => by kernel_rfl, fun F L => by simp [DV.Ok, DVs.Ok]⟩, fun h => by cases h⟩
def TTl : List (Option TyI) := [none, none, some ti2, some ti3, some ti4, some ti5, none, none, none, some ti9, none, none, some ti12, some ti13, none, none, none, none, none, some ti19, none, some ti21, some ti22, some ti23, some ti24, none, some ti26, none, none, none, none, none, none, none, none, none, none, none, some ti38, none, none, none, some ti42, none, none, none, none, some ti47, some ti48, some ti49, none, none, none, none, none, none, none, some ti57, some ti58, none, none, some ti61, none, none, none, none, none, none, none, none, none, none, some ti72, none, none, none, none, none, none, none, none, none, none, none, none, none, none, none, none, none, none, none, none, none, none, none, none, none, none, none, none, some ti101, some ti102, some ti103, none, none, none, none, none, none, none, some ti111, none, none, none, none, none, none, none, none, none, none, none, none, none, none, none, none, none, none, none, some ti131, none, none, some ti134, none, none, none, none, none, none, none, none, none, none, none, none, none, none, none, none, none, none, some ti153, none, none, none, none, none, none, none, some ti161, none, none, none, some ti165, none, none, none, none, none, none, none]
def TT : TyT := lookT TTl
theorem tok : TOk Try.prog TT := tok_of (show AllTy Try.prog 0 TTl from ⟨tyOk2, tyOk3, tyOk4, tyOk5, tyOk9, tyOk12, tyOk13, tyOk19, tyOk21, tyOk22, tyOk23, tyOk24, tyOk26, tyOk38, tyOk42, tyOk47, tyOk48, tyOk49, tyOk57, tyOk58, tyOk61, tyOk72, tyOk101, tyOk102, tyOk103, tyOk111, tyOk131, tyOk134, tyOk153, tyOk161, tyOk165, trivial⟩)
theorem mixed : Try.prog.follows .mixedOrders = true := by kernel_rfl
end Go.Proofs.Ytooakheodgndaaa.AM
