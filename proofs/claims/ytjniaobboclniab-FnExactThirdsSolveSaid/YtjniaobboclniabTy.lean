/- The types of this seat's program, as the machine asks for them. -/
import Derived.Test.YtjniaobboclniabD16
import Derived.Test.YtjniaobboclniabProg
set_option maxRecDepth 100000
set_option maxHeartbeats 4000000
set_option linter.unusedSimpArgs false
set_option linter.unusedVariables false
namespace Go.Proofs.Ytjniaobboclniab.AM
open Go.Proofs
def ti2 : TyI := ⟨.int .i64, 1, true, some (.int .i64 (0 : Int)), true⟩
theorem tyOk2 : TyOk Try.prog 2 ti2 := ⟨by kernel_rfl, by kernel_rfl, Try.underlying2, fun z h => by cases h; exact ⟨fun F => by kernel_rfl, fun F L => by simp [DV.Ok, DVs.Ok]⟩, fun _ _ => ⟨Try.t2, _, by kernel_rfl, rfl, by decide, rfl, rfl, by kernel_rfl, fun zd h F => by cases h; kernel_rfl⟩⟩
def ti3 : TyI := ⟨.int .i64, 1, true, some (.int .i64 (0 : Int)), true⟩
theorem tyOk3 : TyOk Try.prog 3 ti3 := ⟨by kernel_rfl, by kernel_rfl, Try.underlying3, fun z h => by cases h; exact ⟨fun F => by kernel_rfl, fun F L => by simp [DV.Ok, DVs.Ok]⟩, fun _ _ => ⟨Try.t3, _, by kernel_rfl, rfl, by decide, rfl, rfl, by kernel_rfl, fun zd h F => by cases h; kernel_rfl⟩⟩
def ti4 : TyI := ⟨.bool, 1, true, some (.lit false), true⟩
theorem tyOk4 : TyOk Try.prog 4 ti4 := ⟨by kernel_rfl, by kernel_rfl, Try.underlying4, fun z h => by cases h; exact ⟨fun F => by kernel_rfl, fun F L => by simp [DV.Ok, DVs.Ok]⟩, fun _ _ => ⟨Try.t4, _, by kernel_rfl, rfl, by decide, rfl, rfl, by kernel_rfl, fun zd h F => by cases h; kernel_rfl⟩⟩
def ti5 : TyI := ⟨.int .u8, 1, true, some (.int .u8 (0 : Int)), true⟩
theorem tyOk5 : TyOk Try.prog 5 ti5 := ⟨by kernel_rfl, by kernel_rfl, Try.underlying5, fun z h => by cases h; exact ⟨fun F => by kernel_rfl, fun F L => by simp [DV.Ok, DVs.Ok]⟩, fun _ _ => ⟨Try.t5, _, by kernel_rfl, rfl, by decide, rfl, rfl, by kernel_rfl, fun zd h F => by cases h; kernel_rfl⟩⟩
def ti9 : TyI := ⟨.str, 1, false, some (.str ByteArray.empty), false⟩
theorem tyOk9 : TyOk Try.prog 9 ti9 := ⟨by kernel_rfl, by kernel_rfl, Try.underlying9, fun z h => by cases h; exact ⟨fun F => by kernel_rfl, fun F L => by simp [DV.Ok, DVs.Ok]⟩, fun h => by cases h⟩
def ti12 : TyI := ⟨.int .u64, 1, true, some (.int .u64 (0 : Int)), true⟩
theorem tyOk12 : TyOk Try.prog 12 ti12 := ⟨by kernel_rfl, by kernel_rfl, Try.underlying12, fun z h => by cases h; exact ⟨fun F => by kernel_rfl, fun F L => by simp [DV.Ok, DVs.Ok]⟩, fun _ _ => ⟨Try.t12, _, by kernel_rfl, rfl, by decide, rfl, rfl, by kernel_rfl, fun zd h F => by cases h; kernel_rfl⟩⟩
def ti13 : TyI := ⟨.struct [(0, 9), (1, 12)], 2, false, some (.agg [.str ByteArray.empty, .int .u64 (0 : Int)]), false⟩
theorem tyOk13 : TyOk Try.prog 13 ti13 := ⟨by kernel_rfl, by kernel_rfl, ⟨⟨_, Try.underlying13, by kernel_rfl⟩, fun k q h => by
    rcases k with _ | _ | k
    · cases h; kernel_rfl
    · cases h; kernel_rfl
    · simp at h⟩, fun z h => by cases h; exact ⟨fun F => by kernel_rfl, fun F L => by simp [DV.Ok, DVs.Ok]⟩, fun h => by cases h⟩
def ti19 : TyI := ⟨.struct [(0, 17)], 1, false, some (.agg [.nilptr]), false⟩
theorem tyOk19 : TyOk Try.prog 19 ti19 := ⟨by kernel_rfl, by kernel_rfl, ⟨⟨_, Try.underlying19, by kernel_rfl⟩, fun k q h => by
    rcases k with _ | k
    · cases h; kernel_rfl
    · simp at h⟩, fun z h => by cases h; exact ⟨fun F => by kernel_rfl, fun F L => by simp [DV.Ok, DVs.Ok]⟩, fun h => by cases h⟩
def ti21 : TyI := ⟨.int .i32, 1, true, some (.int .i32 (0 : Int)), true⟩
theorem tyOk21 : TyOk Try.prog 21 ti21 := ⟨by kernel_rfl, by kernel_rfl, Try.underlying21, fun z h => by cases h; exact ⟨fun F => by kernel_rfl, fun F L => by simp [DV.Ok, DVs.Ok]⟩, fun _ _ => ⟨Try.t21, _, by kernel_rfl, rfl, by decide, rfl, rfl, by kernel_rfl, fun zd h F => by cases h; kernel_rfl⟩⟩
def ti22 : TyI := ⟨.slice 71, 1, false, some (.nilslc), false⟩
theorem tyOk22 : TyOk Try.prog 22 ti22 := ⟨by kernel_rfl, by kernel_rfl, Try.underlying22, fun z h => by cases h; exact ⟨fun F => by kernel_rfl, fun F L => by simp [DV.Ok, DVs.Ok]⟩, fun h => by cases h⟩
def ti23 : TyI := ⟨.struct [(0, 2), (1, 2), (2, 22)], 3, false, some (.agg [.int .i64 (0 : Int), .int .i64 (0 : Int), .nilslc]), false⟩
theorem tyOk23 : TyOk Try.prog 23 ti23 := ⟨by kernel_rfl, by kernel_rfl, ⟨⟨_, Try.underlying23, by kernel_rfl⟩, fun k q h => by
    rcases k with _ | _ | _ | k
    · cases h; kernel_rfl
    · cases h; kernel_rfl
    · cases h; kernel_rfl
    · simp at h⟩, fun z h => by cases h; exact ⟨fun F => by kernel_rfl, fun F L => by simp [DV.Ok, DVs.Ok]⟩, fun h => by cases h⟩
def ti24 : TyI := ⟨.struct [(0, 2), (1, 2), (2, 22)], 3, false, some (.agg [.int .i64 (0 : Int), .int .i64 (0 : Int), .nilslc]), false⟩
theorem tyOk24 : TyOk Try.prog 24 ti24 := ⟨by kernel_rfl, by kernel_rfl, ⟨⟨_, Try.underlying24, by kernel_rfl⟩, fun k q h => by
    rcases k with _ | _ | _ | k
    · cases h; kernel_rfl
    · cases h; kernel_rfl
    · cases h; kernel_rfl
    · simp at h⟩, fun z h => by cases h; exact ⟨fun F => by kernel_rfl, fun F L => by simp [DV.Ok, DVs.Ok]⟩, fun h => by cases h⟩
def ti26 : TyI := ⟨.struct [(0, 2), (1, 2), (2, 22)], 3, false, some (.agg [.int .i64 (0 : Int), .int .i64 (0 : Int), .nilslc]), false⟩
theorem tyOk26 : TyOk Try.prog 26 ti26 := ⟨by kernel_rfl, by kernel_rfl, ⟨⟨_, Try.underlying26, by kernel_rfl⟩, fun k q h => by
    rcases k with _ | _ | _ | k
    · cases h; kernel_rfl
    · cases h; kernel_rfl
    · cases h; kernel_rfl
    · simp at h⟩, fun z h => by cases h; exact ⟨fun F => by kernel_rfl, fun F L => by simp [DV.Ok, DVs.Ok]⟩, fun h => by cases h⟩
def ti33 : TyI := ⟨.struct [(0, 22), (1, 22), (2, 22)], 3, false, some (.agg [.nilslc, .nilslc, .nilslc]), false⟩
theorem tyOk33 : TyOk Try.prog 33 ti33 := ⟨by kernel_rfl, by kernel_rfl, ⟨⟨_, Try.underlying33, by kernel_rfl⟩, fun k q h => by
    rcases k with _ | _ | _ | k
    · cases h; kernel_rfl
    · cases h; kernel_rfl
    · cases h; kernel_rfl
    · simp at h⟩, fun z h => by cases h; exact ⟨fun F => by kernel_rfl, fun F L => by simp [DV.Ok, DVs.Ok]⟩, fun h => by cases h⟩
def ti34 : TyI := ⟨.struct [(0, 22), (1, 22), (2, 22)], 3, false, some (.agg [.nilslc, .nilslc, .nilslc]), false⟩
theorem tyOk34 : TyOk Try.prog 34 ti34 := ⟨by kernel_rfl, by kernel_rfl, ⟨⟨_, Try.underlying34, by kernel_rfl⟩, fun k q h => by
    rcases k with _ | _ | _ | k
    · cases h; kernel_rfl
    · cases h; kernel_rfl
    · cases h; kernel_rfl
    · simp at h⟩, fun z h => by cases h; exact ⟨fun F => by kernel_rfl, fun F L => by simp [DV.Ok, DVs.Ok]⟩, fun h => by cases h⟩
def ti38 : TyI := ⟨.struct [(0, 22), (1, 22), (2, 22)], 3, false, some (.agg [.nilslc, .nilslc, .nilslc]), false⟩
theorem tyOk38 : TyOk Try.prog 38 ti38 := ⟨by kernel_rfl, by kernel_rfl, ⟨⟨_, Try.underlying38, by kernel_rfl⟩, fun k q h => by
    rcases k with _ | _ | _ | k
    · cases h; kernel_rfl
    · cases h; kernel_rfl
    · cases h; kernel_rfl
    · simp at h⟩, fun z h => by cases h; exact ⟨fun F => by kernel_rfl, fun F L => by simp [DV.Ok, DVs.Ok]⟩, fun h => by cases h⟩
def ti46 : TyI := ⟨.slice 5, 1, false, some (.nilslc), false⟩
theorem tyOk46 : TyOk Try.prog 46 ti46 := ⟨by kernel_rfl, by kernel_rfl, Try.underlying46, fun z h => by cases h; exact ⟨fun F => by kernel_rfl, fun F L => by simp [DV.Ok, DVs.Ok]⟩, fun h => by cases h⟩
def ti49 : TyI := ⟨.slice 2, 1, false, some (.nilslc), false⟩
theorem tyOk49 : TyOk Try.prog 49 ti49 := ⟨by kernel_rfl, by kernel_rfl, Try.underlying49, fun z h => by cases h; exact ⟨fun F => by kernel_rfl, fun F L => by simp [DV.Ok, DVs.Ok]⟩, fun h => by cases h⟩
def ti50 : TyI := ⟨.struct [(0, 2), (1, 2), (2, 49)], 3, false, some (.agg [.int .i64 (0 : Int), .int .i64 (0 : Int), .nilslc]), false⟩
theorem tyOk50 : TyOk Try.prog 50 ti50 := ⟨by kernel_rfl, by kernel_rfl, ⟨⟨_, Try.underlying50, by kernel_rfl⟩, fun k q h => by
    rcases k with _ | _ | _ | k
    · cases h; kernel_rfl
    · cases h; kernel_rfl
    · cases h; kernel_rfl
    · simp at h⟩, fun z h => by cases h; exact ⟨fun F => by kernel_rfl, fun F L => by simp [DV.Ok, DVs.Ok]⟩, fun h => by cases h⟩
def ti51 : TyI := ⟨.struct [(0, 2), (1, 2), (2, 49)], 3, false, some (.agg [.int .i64 (0 : Int), .int .i64 (0 : Int), .nilslc]), false⟩
theorem tyOk51 : TyOk Try.prog 51 ti51 := ⟨by kernel_rfl, by kernel_rfl, ⟨⟨_, Try.underlying51, by kernel_rfl⟩, fun k q h => by
    rcases k with _ | _ | _ | k
    · cases h; kernel_rfl
    · cases h; kernel_rfl
    · cases h; kernel_rfl
    · simp at h⟩, fun z h => by cases h; exact ⟨fun F => by kernel_rfl, fun F L => by simp [DV.Ok, DVs.Ok]⟩, fun h => by cases h⟩
def ti60 : TyI := ⟨.struct [(0, 2), (1, 2), (2, 49)], 3, false, some (.agg [.int .i64 (0 : Int), .int .i64 (0 : Int), .nilslc]), false⟩
theorem tyOk60 : TyOk Try.prog 60 ti60 := ⟨by kernel_rfl, by kernel_rfl, ⟨⟨_, Try.underlying60, by kernel_rfl⟩, fun k q h => by
    rcases k with _ | _ | _ | k
    · cases h; kernel_rfl
    · cases h; kernel_rfl
    · cases h; kernel_rfl
    · simp at h⟩, fun z h => by cases h; exact ⟨fun F => by kernel_rfl, fun F L => by simp [DV.Ok, DVs.Ok]⟩, fun h => by cases h⟩
def ti71 : TyI := ⟨.flt .f32, 1, true, some (.flt .f32 (0 : Nat)), true⟩
theorem tyOk71 : TyOk Try.prog 71 ti71 := ⟨by kernel_rfl, by kernel_rfl, Try.underlying71, fun z h => by cases h; exact ⟨fun F => by kernel_rfl, fun F L => by simp [DV.Ok, DVs.Ok]⟩, fun _ _ => ⟨Try.t71, _, by kernel_rfl, rfl, by decide, rfl, rfl, by kernel_rfl, fun zd h F => by cases h; kernel_rfl⟩⟩
def ti75 : TyI := ⟨.flt .f64, 1, true, some (.flt .f64 (0 : Nat)), true⟩
theorem tyOk75 : TyOk Try.prog 75 ti75 := ⟨by kernel_rfl, by kernel_rfl, Try.underlying75, fun z h => by cases h; exact ⟨fun F => by kernel_rfl, fun F L => by simp [DV.Ok, DVs.Ok]⟩, fun _ _ => ⟨Try.t75, _, by kernel_rfl, rfl, by decide, rfl, rfl, by kernel_rfl, fun zd h F => by cases h; kernel_rfl⟩⟩
def ti77 : TyI := ⟨.slice 159, 1, false, some (.nilslc), false⟩
theorem tyOk77 : TyOk Try.prog 77 ti77 := ⟨by kernel_rfl, by kernel_rfl, Try.underlying77, fun z h => by cases h; exact ⟨fun F => by kernel_rfl, fun F L => by simp [DV.Ok, DVs.Ok]⟩, fun h => by cases h⟩
def ti81 : TyI := ⟨.slice 93, 1, false, some (.nilslc), false⟩
theorem tyOk81 : TyOk Try.prog 81 ti81 := ⟨by kernel_rfl, by kernel_rfl, Try.underlying81, fun z h => by cases h; exact ⟨fun F => by kernel_rfl, fun F L => by simp [DV.Ok, DVs.Ok]⟩, fun h => by cases h⟩
def ti92 : TyI := ⟨.struct [(0, 9), (1, 26)], 4, false, some (.agg [.str ByteArray.empty, .int .i64 (0 : Int), .int .i64 (0 : Int), .nilslc]), false⟩
theorem tyOk92 : TyOk Try.prog 92 ti92 := ⟨by kernel_rfl, by kernel_rfl, ⟨⟨_, Try.underlying92, by kernel_rfl⟩, fun k q h => by
    rcases k with _ | _ | k
    · cases h; kernel_rfl
    · cases h; kernel_rfl
    · simp at h⟩, fun z h => by cases h; exact ⟨fun F => by kernel_rfl, fun F L => by simp [DV.Ok, DVs.Ok]⟩, fun h => by cases h⟩
def ti93 : TyI := ⟨.struct [(0, 9), (1, 26)], 4, false, some (.agg [.str ByteArray.empty, .int .i64 (0 : Int), .int .i64 (0 : Int), .nilslc]), false⟩
theorem tyOk93 : TyOk Try.prog 93 ti93 := ⟨by kernel_rfl, by kernel_rfl, ⟨⟨_, Try.underlying93, by kernel_rfl⟩, fun k q h => by
    rcases k with _ | _ | k
    · cases h; kernel_rfl
    · cases h; kernel_rfl
    · simp at h⟩, fun z h => by cases h; exact ⟨fun F => by kernel_rfl, fun F L => by simp [DV.Ok, DVs.Ok]⟩, fun h => by cases h⟩
def ti99 : TyI := ⟨.struct [(0, 2), (1, 49), (2, 49), (3, 22)], 4, false, some (.agg [.int .i64 (0 : Int), .nilslc, .nilslc, .nilslc]), false⟩
theorem tyOk99 : TyOk Try.prog 99 ti99 := ⟨by kernel_rfl, by kernel_rfl, ⟨⟨_, Try.underlying99, by kernel_rfl⟩, fun k q h => by
    rcases k with _ | _ | _ | _ | k
    · cases h; kernel_rfl
    · cases h; kernel_rfl
    · cases h; kernel_rfl
    · cases h; kernel_rfl
    · simp at h⟩, fun z h => by cases h; exact ⟨fun F => by kernel_rfl, fun F L => by simp [DV.Ok, DVs.Ok]⟩, fun h => by cases h⟩
def ti100 : TyI := ⟨.struct [(0, 2), (1, 49), (2, 49), (3, 22)], 4, false, some (.agg [.int .i64 (0 : Int), .nilslc, .nilslc, .nilslc]), false⟩
theorem tyOk100 : TyOk Try.prog 100 ti100 := ⟨by kernel_rfl, by kernel_rfl, ⟨⟨_, Try.underlying100, by kernel_rfl⟩, fun k q h => by
    rcases k with _ | _ | _ | _ | k
    · cases h; kernel_rfl
    · cases h; kernel_rfl
    · cases h; kernel_rfl
    · cases h; kernel_rfl
    · simp at h⟩, fun z h => by cases h; exact ⟨fun F => by kernel_rfl, fun F L => by simp [DV.Ok, DVs.Ok]⟩, fun h => by cases h⟩
def ti103 : TyI := ⟨.struct [(0, 2), (1, 49), (2, 49), (3, 22)], 4, false, some (.agg [.int .i64 (0 : Int), .nilslc, .nilslc, .nilslc]), false⟩
theorem tyOk103 : TyOk Try.prog 103 ti103 := ⟨by kernel_rfl, by kernel_rfl, ⟨⟨_, Try.underlying103, by kernel_rfl⟩, fun k q h => by
    rcases k with _ | _ | _ | _ | k
    · cases h; kernel_rfl
    · cases h; kernel_rfl
    · cases h; kernel_rfl
    · cases h; kernel_rfl
    · simp at h⟩, fun z h => by cases h; exact ⟨fun F => by kernel_rfl, fun F L => by simp [DV.Ok, DVs.Ok]⟩, fun h => by cases h⟩
def ti109 : TyI := ⟨.other, 1, false, some (.nilptr), false⟩
theorem tyOk109 : TyOk Try.prog 109 ti109 := ⟨by kernel_rfl, by kernel_rfl, ⟨_, Try.underlying109, rfl⟩, fun z h => by cases h; exact ⟨fun F => by kernel_rfl, fun F L => by simp [DV.Ok, DVs.Ok]⟩, fun h => by cases h⟩
def ti119 : TyI := ⟨.other, 1, false, some (.nilptr), false⟩
theorem tyOk119 : TyOk Try.prog 119 ti119 := ⟨by kernel_rfl, by kernel_rfl, ⟨_, Try.underlying119, rfl⟩, fun z h => by cases h; exact ⟨fun F => by kernel_rfl, fun F L => by simp [DV.Ok, DVs.Ok]⟩, fun h => by cases h⟩
def ti125 : TyI := ⟨.other, 1, false, some (.nilptr), false⟩
theorem tyOk125 : TyOk Try.prog 125 ti125 := ⟨by kernel_rfl, by kernel_rfl, ⟨_, Try.underlying125, rfl⟩, fun z h => by cases h; exact ⟨fun F => by kernel_rfl, fun F L => by simp [DV.Ok, DVs.Ok]⟩, fun h => by cases h⟩
def ti129 : TyI := ⟨.slice 133, 1, false, some (.nilslc), false⟩
theorem tyOk129 : TyOk Try.prog 129 ti129 := ⟨by kernel_rfl, by kernel_rfl, Try.underlying129, fun z h => by cases h; exact ⟨fun F => by kernel_rfl, fun F L => by simp [DV.Ok, DVs.Ok]⟩, fun h => by cases h⟩
def ti133 : TyI := ⟨.slice 75, 1, false, some (.nilslc), false⟩
theorem tyOk133 : TyOk Try.prog 133 ti133 := ⟨by kernel_rfl, by kernel_rfl, Try.underlying133, fun z h => by cases h; exact ⟨fun F => by kernel_rfl, fun F L => by simp [DV.Ok, DVs.Ok]⟩, fun h => by cases h⟩
def ti143 : TyI := ⟨.other, 1, false, some (.nilptr), false⟩
theorem tyOk143 : TyOk Try.prog 143 ti143 := ⟨by kernel_rfl, by kernel_rfl, ⟨_, Try.underlying143, rfl⟩, fun z h => by cases h; exact ⟨fun F => by kernel_rfl, fun F L => by simp [DV.Ok, DVs.Ok]⟩, fun h => by cases h⟩
def ti149 : TyI := ⟨.slice 49, 1, false, some (.nilslc), false⟩
theorem tyOk149 : TyOk Try.prog 149 ti149 := ⟨by kernel_rfl, by kernel_rfl, Try.underlying149, fun z h => by cases h; exact ⟨fun F => by kernel_rfl, fun F L => by simp [DV.Ok, DVs.Ok]⟩, fun h => by cases h⟩
def ti158 : TyI := ⟨.struct [(0, 9), (1, 24)], 4, false, some (.agg [.str ByteArray.empty, .int .i64 (0 : Int), .int .i64 (0 : Int), .nilslc]), false⟩
theorem tyOk158 : TyOk Try.prog 158 ti158 := ⟨by kernel_rfl, by kernel_rfl, ⟨⟨_, Try.underlying158, by kernel_rfl⟩, fun k q h => by
    rcases k with _ | _ | k
    · cases h; kernel_rfl
    · cases h; kernel_rfl
    · simp at h⟩, fun z h => by cases h; exact ⟨fun F => by kernel_rfl, fun F L => by simp [DV.Ok, DVs.Ok]⟩, fun h => by cases h⟩
def ti159 : TyI := ⟨.struct [(0, 9), (1, 24)], 4, false, some (.agg [.str ByteArray.empty, .int .i64 (0 : Int), .int .i64 (0 : Int), .nilslc]), false⟩
theorem tyOk159 : TyOk Try.prog 159 ti159 := ⟨by kernel_rfl, by kernel_rfl, ⟨⟨_, Try.underlying159, by kernel_rfl⟩, fun k q h => by
    rcases k with _ | _ | k
    · cases h; kernel_rfl
    · cases h; kernel_rfl
    · simp at h⟩, fun z h => by cases h; exact ⟨fun F => by kernel_rfl, fun F L => by simp [DV.Ok, DVs.Ok]⟩, fun h => by cases h⟩
def ti161 : TyI := ⟨.other, 1, false, some (.nilptr), false⟩
theorem tyOk161 : TyOk Try.prog 161 ti161 := ⟨by kernel_rfl, by kernel_rfl, ⟨_, Try.underlying161, rfl⟩, fun z h => by cases h; exact ⟨fun F => by kernel_rfl, fun F L => by simp [DV.Ok, DVs.Ok]⟩, fun h => by cases h⟩
def ti184 : TyI := ⟨.other, 1, false, some (.nilptr), false⟩
theorem tyOk184 : TyOk Try.prog 184 ti184 := ⟨by kernel_rfl, by kernel_rfl, ⟨_, Try.underlying184, rfl⟩, fun z h => by cases h; exact ⟨fun F => by kernel_rfl, fun F L => by simp [DV.Ok, DVs.Ok]⟩, fun h => by cases h⟩
def ti190 : TyI := ⟨.int .u64, 1, true, some (.int .u64 (0 : Int)), true⟩
theorem tyOk190 : TyOk Try.prog 190 ti190 := ⟨by kernel_rfl, by kernel_rfl, Try.underlying190, fun z h => by cases h; exact ⟨fun F => by kernel_rfl, fun F L => by simp [DV.Ok, DVs.Ok]⟩, fun _ _ => ⟨Try.t190, _, by kernel_rfl, rfl, by decide, rfl, rfl, by kernel_rfl, fun zd h F => by cases h; kernel_rfl⟩⟩
def ti191 : TyI := ⟨.struct [(0, 46), (1, 3), (2, 190)], 3, false, some (.agg [.nilslc, .int .i64 (0 : Int), .int .u64 (0 : Int)]), false⟩
theorem tyOk191 : TyOk Try.prog 191 ti191 := ⟨by kernel_rfl, by kernel_rfl, ⟨⟨_, Try.underlying191, by kernel_rfl⟩, fun k q h => by
    rcases k with _ | _ | _ | k
    · cases h; kernel_rfl
    · cases h; kernel_rfl
    · cases h; kernel_rfl
    · simp at h⟩, fun z h => by cases h; exact ⟨fun F => by kernel_rfl, fun F L => by simp [DV.Ok, DVs.Ok]⟩, fun h => by cases h⟩
def ti192 : TyI := ⟨.struct [(0, 46), (1, 3), (2, 190)], 3, false, some (.agg [.nilslc, .int .i64 (0 : Int), .int .u64 (0 : Int)]), false⟩
theorem tyOk192 : TyOk Try.prog 192 ti192 := ⟨by kernel_rfl, by kernel_rfl, ⟨⟨_, Try.underlying192, by kernel_rfl⟩, fun k q h => by
    rcases k with _ | _ | _ | k
    · cases h; kernel_rfl
    · cases h; kernel_rfl
    · cases h; kernel_rfl
    · simp at h⟩, fun z h => by cases h; exact ⟨fun F => by kernel_rfl, fun F L => by simp [DV.Ok, DVs.Ok]⟩, fun h => by cases h⟩
def ti197 : TyI := ⟨.int .u64, 1, true, some (.int .u64 (0 : Int)), true⟩
theorem tyOk197 : TyOk Try.prog 197 ti197 := ⟨by kernel_rfl, by kernel_rfl, Try.underlying197, fun z h => by cases h; exact ⟨fun F => by kernel_rfl, fun F L => by simp [DV.Ok, DVs.Ok]⟩, fun _ _ => ⟨Try.t197, _, by kernel_rfl, rfl, by decide, rfl, rfl, by kernel_rfl, fun zd h F => by cases h; kernel_rfl⟩⟩
def ti219 : TyI := ⟨.int .u32, 1, true, some (.int .u32 (0 : Int)), true⟩
theorem tyOk219 : TyOk Try.prog 219 ti219 := ⟨by kernel_rfl, by kernel_rfl, Try.underlying219, fun z h => by cases h; exact ⟨fun F => by kernel_rfl, fun F L => by simp [DV.Ok, DVs.Ok]⟩, fun _ _ => ⟨Try.t219, _, by kernel_rfl, rfl, by decide, rfl, rfl, by kernel_rfl, fun zd h F => by cases h; kernel_rfl⟩⟩
def ti249 : TyI := ⟨.other, 1, false, some (.nilptr), false⟩
theorem tyOk249 : TyOk Try.prog 249 ti249 := ⟨by kernel_rfl, by kernel_rfl, ⟨_, Try.underlying249, rfl⟩, fun z h => by cases h; exact ⟨fun F => by kernel_rfl, fun F L => by simp [DV.Ok, DVs.Ok]⟩, fun h => by cases h⟩
def TTl : List (Option TyI) := [none, none, some ti2, some ti3, some ti4, some ti5, none, none, none, some ti9, none, none, some ti12, some ti13, none, none, none, none, none, some ti19, none, some ti21, some ti22, some ti23, some ti24, none, some ti26, none, none, none, none, none, none, some ti33, some ti34, none, none, none, some ti38, none, none, none, none, none, none, none, some ti46, none, none, some ti49, some ti50, some ti51, none, none, none, none, none, none, none, none, some ti60, none, none, none, none, none, none, none, none, none, none, some ti71, none, none, none, some ti75, none, some ti77, none, none, none, some ti81, none, none, none, none, none, none, none, none, none, none, some ti92, some ti93, none, none, none, none, none, some ti99, some ti100, none, none, some ti103, none, none, none, none, none, some ti109, none, none, none, none, none, none, none, none, none, some ti119, none, none, none, none, none, some ti125, none, none, none, some ti129, none, none, none, some ti133, none, none, none, none, none, none, none, none, none, some ti143, none, none, none, none, none, some ti149, none, none, none, none, none, none, none, none, some ti158, some ti159, none, some ti161, none, none, none, none, none, none, none, none, none, none, none, none, none, none, none, none, none, none, none, none, none, none, some ti184, none, none, none, none, none, some ti190, some ti191, some ti192, none, none, none, none, some ti197, none, none, none, none, none, none, none, none, none, none, none, none, none, none, none, none, none, none, none, none, none, some ti219, none, none, none, none, none, none, none, none, none, none, none, none, none, none, none, none, none, none, none, none, none, none, none, none, none, none, none, none, none, some ti249, none, none, none, none, none, none, none]
def TT : TyT := lookT TTl
theorem tok : TOk Try.prog TT := tok_of (show AllTy Try.prog 0 TTl from ⟨tyOk2, tyOk3, tyOk4, tyOk5, tyOk9, tyOk12, tyOk13, tyOk19, tyOk21, tyOk22, tyOk23, tyOk24, tyOk26, tyOk33, tyOk34, tyOk38, tyOk46, tyOk49, tyOk50, tyOk51, tyOk60, tyOk71, tyOk75, tyOk77, tyOk81, tyOk92, tyOk93, tyOk99, tyOk100, tyOk103, tyOk109, tyOk119, tyOk125, tyOk129, tyOk133, tyOk143, tyOk149, tyOk158, tyOk159, tyOk161, tyOk184, tyOk190, tyOk191, tyOk192, tyOk197, tyOk219, tyOk249, trivial⟩)
theorem mixed : Try.prog.follows .mixedOrders = true := by kernel_rfl
end Go.Proofs.Ytjniaobboclniab.AM
