import Derived.Test.YtmgpbchacndndaaD23
import Derived.Test.YtmgpbchacndndaaProg
set_option maxRecDepth 100000
set_option maxHeartbeats 4000000
set_option linter.unusedSimpArgs false
set_option linter.unusedVariables false
namespace Go.Proofs.Ytmgpbchacndndaa.AM
open Go.Proofs
def ti1 : TyI := ⟨.other, 1, false, some (.nilfn), false⟩
theorem tyOk1 : TyOk Try.prog 1 ti1 := ⟨by kernel_rfl, by kernel_rfl, ⟨_, Try.underlying1, rfl⟩, fun z h => by cases h; exact ⟨fun F => by kernel_rfl, fun F L => by simp [DV.Ok, DVs.Ok]⟩, fun h => by cases h⟩
def ti2 : TyI := ⟨.int .i64, 1, true, some (.int .i64 (0 : Int)), true⟩
theorem tyOk2 : TyOk Try.prog 2 ti2 := ⟨by kernel_rfl, by kernel_rfl, Try.underlying2, fun z h => by cases h; exact ⟨fun F => by kernel_rfl, fun F L => by simp [DV.Ok, DVs.Ok]⟩, fun _ => ⟨Try.t2, _, by kernel_rfl, rfl, by decide, rfl, rfl, by kernel_rfl, fun zd h F => by cases h; kernel_rfl⟩⟩
def ti3 : TyI := ⟨.int .i64, 1, true, some (.int .i64 (0 : Int)), true⟩
theorem tyOk3 : TyOk Try.prog 3 ti3 := ⟨by kernel_rfl, by kernel_rfl, Try.underlying3, fun z h => by cases h; exact ⟨fun F => by kernel_rfl, fun F L => by simp [DV.Ok, DVs.Ok]⟩, fun _ => ⟨Try.t3, _, by kernel_rfl, rfl, by decide, rfl, rfl, by kernel_rfl, fun zd h F => by cases h; kernel_rfl⟩⟩
def ti4 : TyI := ⟨.bool, 1, true, some (.lit false), true⟩
theorem tyOk4 : TyOk Try.prog 4 ti4 := ⟨by kernel_rfl, by kernel_rfl, Try.underlying4, fun z h => by cases h; exact ⟨fun F => by kernel_rfl, fun F L => by simp [DV.Ok, DVs.Ok]⟩, fun _ => ⟨Try.t4, _, by kernel_rfl, rfl, by decide, rfl, rfl, by kernel_rfl, fun zd h F => by cases h; kernel_rfl⟩⟩
def ti5 : TyI := ⟨.int .u8, 1, true, some (.int .u8 (0 : Int)), true⟩
theorem tyOk5 : TyOk Try.prog 5 ti5 := ⟨by kernel_rfl, by kernel_rfl, Try.underlying5, fun z h => by cases h; exact ⟨fun F => by kernel_rfl, fun F L => by simp [DV.Ok, DVs.Ok]⟩, fun _ => ⟨Try.t5, _, by kernel_rfl, rfl, by decide, rfl, rfl, by kernel_rfl, fun zd h F => by cases h; kernel_rfl⟩⟩
def ti9 : TyI := ⟨.str, 1, false, some (.str ByteArray.empty), true⟩
theorem tyOk9 : TyOk Try.prog 9 ti9 := ⟨by kernel_rfl, by kernel_rfl, Try.underlying9, fun z h => by cases h; exact ⟨fun F => by kernel_rfl, fun F L => by simp [DV.Ok, DVs.Ok]⟩, fun _ => ⟨Try.t9, _, by kernel_rfl, rfl, by decide, rfl, rfl, by kernel_rfl, fun zd h F => by cases h⟩⟩
def ti12 : TyI := ⟨.int .u64, 1, true, some (.int .u64 (0 : Int)), true⟩
theorem Aqa_ : TyOk Try.prog 12 ti12 := ⟨by kernel_rfl, by kernel_rfl, Try.underlying12, fun z h => by cases h; exact ⟨fun F => by kernel_rfl, fun F L => by simp [DV.Ok, DVs.Ok]⟩, fun _ => ⟨Try.t12, _, by kernel_rfl, rfl, by decide, rfl, rfl, by kernel_rfl, fun zd h F => by cases h; kernel_rfl⟩⟩
def ti13 : TyI := ⟨.struct [(0, 9), (1, 12)], 2, false, some (.agg [.str ByteArray.empty, .int .u64 (0 : Int)]), true⟩
theorem Akl_ : TyOk Try.prog 13 ti13 := ⟨by kernel_rfl, by kernel_rfl, ⟨⟨_, Try.underlying13, by kernel_rfl⟩, fun k q h => by
    rcases k with _ | _ | k
    · cases h; kernel_rfl
    · cases h; kernel_rfl
    · simp at h⟩, fun z h => by cases h; exact ⟨fun F => by kernel_rfl, fun F L => by simp [DV.Ok, DVs.Ok]⟩, fun _ => ⟨Try.t13, _, by kernel_rfl, rfl, by decide, rfl, rfl, by kernel_rfl, fun zd h F => by cases h⟩⟩
def ti19 : TyI := ⟨.struct [(0, 17)], 1, false, some (.agg [.nilptr]), true⟩
theorem Zi_ : TyOk Try.prog 19 ti19 := ⟨by kernel_rfl, by kernel_rfl, ⟨⟨_, Try.underlying19, by kernel_rfl⟩, fun k q h => by
    rcases k with _ | k
    · cases h; kernel_rfl
    · simp at h⟩, fun z h => by cases h; exact ⟨fun F => by kernel_rfl, fun F L => by simp [DV.Ok, DVs.Ok]⟩, fun _ => ⟨Try.t19, _, by kernel_rfl, rfl, by decide, rfl, rfl, by kernel_rfl, fun zd h F => by cases h⟩⟩
def ti21 : TyI := ⟨.int .i32, 1, true, some (.int .i32 (0 : Int)), true⟩
theorem Aol_ : TyOk Try.prog 21 ti21 := ⟨by kernel_rfl, by kernel_rfl, Try.underlying21, fun z h => by cases h; exact ⟨fun F => by kernel_rfl, fun F L => by simp [DV.Ok, DVs.Ok]⟩, fun _ => ⟨Try.t21, _, by kernel_rfl, rfl, by decide, rfl, rfl, by kernel_rfl, fun zd h F => by cases h; kernel_rfl⟩⟩
def ti22 : TyI := ⟨.slice 5, 1, false, some (.nilslc), true⟩
theorem Aar_ : TyOk Try.prog 22 ti22 := ⟨by kernel_rfl, by kernel_rfl, Try.underlying22, fun z h => by cases h; exact ⟨fun F => by kernel_rfl, fun F L => by simp [DV.Ok, DVs.Ok]⟩, fun _ => ⟨Try.t22, _, by kernel_rfl, rfl, by decide, rfl, rfl, by kernel_rfl, fun zd h F => by cases h⟩⟩
def ti23 : TyI := ⟨.other, 1, false, some (.nilfn), false⟩
theorem All_ : TyOk Try.prog 23 ti23 := ⟨by kernel_rfl, by kernel_rfl, ⟨_, Try.underlying23, rfl⟩, fun z h => by cases h; exact ⟨fun F => by kernel_rfl, fun F L => by simp [DV.Ok, DVs.Ok]⟩, fun h => by cases h⟩
def ti24 : TyI := ⟨.other, 1, false, some (.nilfn), false⟩
theorem Aho_ : TyOk Try.prog 24 ti24 := ⟨by kernel_rfl, by kernel_rfl, ⟨_, Try.underlying24, rfl⟩, fun z h => by cases h; exact ⟨fun F => by kernel_rfl, fun F L => by simp [DV.Ok, DVs.Ok]⟩, fun h => by cases h⟩
def ti25 : TyI := ⟨.slice 2, 1, false, some (.nilslc), true⟩
theorem Af9_ : TyOk Try.prog 25 ti25 := ⟨by kernel_rfl, by kernel_rfl, Try.underlying25, fun z h => by cases h; exact ⟨fun F => by kernel_rfl, fun F L => by simp [DV.Ok, DVs.Ok]⟩, fun _ => ⟨Try.t25, _, by kernel_rfl, rfl, by decide, rfl, rfl, by kernel_rfl, fun zd h F => by cases h⟩⟩
def ti26 : TyI := ⟨.struct [(0, 2), (1, 2), (2, 25)], 3, false, some (.agg [.int .i64 (0 : Int), .int .i64 (0 : Int), .nilslc]), true⟩
theorem Ao3_ : TyOk Try.prog 26 ti26 := ⟨by kernel_rfl, by kernel_rfl, ⟨⟨_, Try.underlying26, by kernel_rfl⟩, fun k q h => by
    rcases k with _ | _ | _ | k
    · cases h; kernel_rfl
    · cases h; kernel_rfl
    · cases h; kernel_rfl
    · simp at h⟩, fun z h => by cases h; exact ⟨fun F => by kernel_rfl, fun F L => by simp [DV.Ok, DVs.Ok]⟩, fun _ => ⟨Try.t26, _, by kernel_rfl, rfl, by decide, rfl, rfl, by kernel_rfl, fun zd h F => by cases h⟩⟩
def ti27 : TyI := ⟨.struct [(0, 2), (1, 2), (2, 25)], 3, false, some (.agg [.int .i64 (0 : Int), .int .i64 (0 : Int), .nilslc]), true⟩
theorem Abj_ : TyOk Try.prog 27 ti27 := ⟨by kernel_rfl, by kernel_rfl, ⟨⟨_, Try.underlying27, by kernel_rfl⟩, fun k q h => by
    rcases k with _ | _ | _ | k
    · cases h; kernel_rfl
    · cases h; kernel_rfl
    · cases h; kernel_rfl
    · simp at h⟩, fun z h => by cases h; exact ⟨fun F => by kernel_rfl, fun F L => by simp [DV.Ok, DVs.Ok]⟩, fun _ => ⟨Try.t27, _, by kernel_rfl, rfl, by decide, rfl, rfl, by kernel_rfl, fun zd h F => by cases h⟩⟩
def ti28 : TyI := ⟨.other, 1, false, some (.nilfn), false⟩
theorem Aix_ : TyOk Try.prog 28 ti28 := ⟨by kernel_rfl, by kernel_rfl, ⟨_, Try.underlying28, rfl⟩, fun z h => by cases h; exact ⟨fun F => by kernel_rfl, fun F L => by simp [DV.Ok, DVs.Ok]⟩, fun h => by cases h⟩
def ti30 : TyI := ⟨.other, 1, false, some (.nilfn), false⟩
theorem Ad1_ : TyOk Try.prog 30 ti30 := ⟨by kernel_rfl, by kernel_rfl, ⟨_, Try.underlying30, rfl⟩, fun z h => by cases h; exact ⟨fun F => by kernel_rfl, fun F L => by simp [DV.Ok, DVs.Ok]⟩, fun h => by cases h⟩
def ti32 : TyI := ⟨.other, 1, false, some (.nilfn), false⟩
theorem Akt_ : TyOk Try.prog 32 ti32 := ⟨by kernel_rfl, by kernel_rfl, ⟨_, Try.underlying32, rfl⟩, fun z h => by cases h; exact ⟨fun F => by kernel_rfl, fun F L => by simp [DV.Ok, DVs.Ok]⟩, fun h => by cases h⟩
def ti34 : TyI := ⟨.other, 1, false, some (.nilfn), false⟩
theorem Apx_ : TyOk Try.prog 34 ti34 := ⟨by kernel_rfl, by kernel_rfl, ⟨_, Try.underlying34, rfl⟩, fun z h => by cases h; exact ⟨fun F => by kernel_rfl, fun F L => by simp [DV.Ok, DVs.Ok]⟩, fun h => by cases h⟩
def ti35 : TyI := ⟨.other, 1, false, some (.nilfn), false⟩
theorem Aqw_ : TyOk Try.prog 35 ti35 := ⟨by kernel_rfl, by kernel_rfl, ⟨_, Try.underlying35, rfl⟩, fun z h => by cases h; exact ⟨fun F => by kernel_rfl, fun F L => by simp [DV.Ok, DVs.Ok]⟩, fun h => by cases h⟩
def ti36 : TyI := ⟨.struct [(0, 2), (1, 2), (2, 25)], 3, false, some (.agg [.int .i64 (0 : Int), .int .i64 (0 : Int), .nilslc]), true⟩
theorem An1_ : TyOk Try.prog 36 ti36 := ⟨by kernel_rfl, by kernel_rfl, ⟨⟨_, Try.underlying36, by kernel_rfl⟩, fun k q h => by
    rcases k with _ | _ | _ | k
    · cases h; kernel_rfl
    · cases h; kernel_rfl
    · cases h; kernel_rfl
    · simp at h⟩, fun z h => by cases h; exact ⟨fun F => by kernel_rfl, fun F L => by simp [DV.Ok, DVs.Ok]⟩, fun _ => ⟨Try.t36, _, by kernel_rfl, rfl, by decide, rfl, rfl, by kernel_rfl, fun zd h F => by cases h⟩⟩
def ti37 : TyI := ⟨.other, 1, false, some (.nilfn), false⟩
theorem Aa1_ : TyOk Try.prog 37 ti37 := ⟨by kernel_rfl, by kernel_rfl, ⟨_, Try.underlying37, rfl⟩, fun z h => by cases h; exact ⟨fun F => by kernel_rfl, fun F L => by simp [DV.Ok, DVs.Ok]⟩, fun h => by cases h⟩
def ti38 : TyI := ⟨.other, 1, false, some (.nilfn), false⟩
theorem Zo_ : TyOk Try.prog 38 ti38 := ⟨by kernel_rfl, by kernel_rfl, ⟨_, Try.underlying38, rfl⟩, fun z h => by cases h; exact ⟨fun F => by kernel_rfl, fun F L => by simp [DV.Ok, DVs.Ok]⟩, fun h => by cases h⟩
def ti39 : TyI := ⟨.other, 1, false, some (.nilfn), false⟩
theorem Ads_ : TyOk Try.prog 39 ti39 := ⟨by kernel_rfl, by kernel_rfl, ⟨_, Try.underlying39, rfl⟩, fun z h => by cases h; exact ⟨fun F => by kernel_rfl, fun F L => by simp [DV.Ok, DVs.Ok]⟩, fun h => by cases h⟩
def ti40 : TyI := ⟨.other, 1, false, some (.nilfn), false⟩
theorem Aew_ : TyOk Try.prog 40 ti40 := ⟨by kernel_rfl, by kernel_rfl, ⟨_, Try.underlying40, rfl⟩, fun z h => by cases h; exact ⟨fun F => by kernel_rfl, fun F L => by simp [DV.Ok, DVs.Ok]⟩, fun h => by cases h⟩
def ti41 : TyI := ⟨.other, 1, false, some (.nilptr), false⟩
theorem Ael_ : TyOk Try.prog 41 ti41 := ⟨by kernel_rfl, by kernel_rfl, ⟨_, Try.underlying41, rfl⟩, fun z h => by cases h; exact ⟨fun F => by kernel_rfl, fun F L => by simp [DV.Ok, DVs.Ok]⟩, fun h => by cases h⟩
def ti42 : TyI := ⟨.other, 1, false, some (.nilfn), false⟩
theorem An2_ : TyOk Try.prog 42 ti42 := ⟨by kernel_rfl, by kernel_rfl, ⟨_, Try.underlying42, rfl⟩, fun z h => by cases h; exact ⟨fun F => by kernel_rfl, fun F L => by simp [DV.Ok, DVs.Ok]⟩, fun h => by cases h⟩
def ti43 : TyI := ⟨.other, 1, false, some (.nilfn), false⟩
theorem Am1_ : TyOk Try.prog 43 ti43 := ⟨by kernel_rfl, by kernel_rfl, ⟨_, Try.underlying43, rfl⟩, fun z h => by cases h; exact ⟨fun F => by kernel_rfl, fun F L => by simp [DV.Ok, DVs.Ok]⟩, fun h => by cases h⟩
def ti44 : TyI := ⟨.other, 1, false, some (.nilfn), false⟩
theorem Aqe_ : TyOk Try.prog 44 ti44 := ⟨by kernel_rfl, by kernel_rfl, ⟨_, Try.underlying44, rfl⟩, fun z h => by cases h; exact ⟨fun F => by kernel_rfl, fun F L => by simp [DV.Ok, DVs.Ok]⟩, fun h => by cases h⟩
def ti45 : TyI := ⟨.other, 1, false, some (.nilfn), false⟩
theorem Ahy_ : TyOk Try.prog 45 ti45 := ⟨by kernel_rfl, by kernel_rfl, ⟨_, Try.underlying45, rfl⟩, fun z h => by cases h; exact ⟨fun F => by kernel_rfl, fun F L => by simp [DV.Ok, DVs.Ok]⟩, fun h => by cases h⟩
def ti46 : TyI := ⟨.other, 1, false, some (.nilfn), false⟩
theorem Abs_ : TyOk Try.prog 46 ti46 := ⟨by kernel_rfl, by kernel_rfl, ⟨_, Try.underlying46, rfl⟩, fun z h => by cases h; exact ⟨fun F => by kernel_rfl, fun F L => by simp [DV.Ok, DVs.Ok]⟩, fun h => by cases h⟩
def ti47 : TyI := ⟨.slice 52, 1, false, some (.nilslc), true⟩
theorem Amw_ : TyOk Try.prog 47 ti47 := ⟨by kernel_rfl, by kernel_rfl, Try.underlying47, fun z h => by cases h; exact ⟨fun F => by kernel_rfl, fun F L => by simp [DV.Ok, DVs.Ok]⟩, fun _ => ⟨Try.t47, _, by kernel_rfl, rfl, by decide, rfl, rfl, by kernel_rfl, fun zd h F => by cases h⟩⟩
def ti49 : TyI := ⟨.other, 1, false, some (.nilfn), false⟩
theorem Aq5_ : TyOk Try.prog 49 ti49 := ⟨by kernel_rfl, by kernel_rfl, ⟨_, Try.underlying49, rfl⟩, fun z h => by cases h; exact ⟨fun F => by kernel_rfl, fun F L => by simp [DV.Ok, DVs.Ok]⟩, fun h => by cases h⟩
def ti50 : TyI := ⟨.flt .f64, 1, true, some (.flt .f64 (0 : Nat)), true⟩
theorem Aed_ : TyOk Try.prog 50 ti50 := ⟨by kernel_rfl, by kernel_rfl, Try.underlying50, fun z h => by cases h; exact ⟨fun F => by kernel_rfl, fun F L => by simp [DV.Ok, DVs.Ok]⟩, fun _ => ⟨Try.t50, _, by kernel_rfl, rfl, by decide, rfl, rfl, by kernel_rfl, fun zd h F => by cases h; kernel_rfl⟩⟩
def ti51 : TyI := ⟨.other, 1, false, some (.nilfn), false⟩
theorem Ah3_ : TyOk Try.prog 51 ti51 := ⟨by kernel_rfl, by kernel_rfl, ⟨_, Try.underlying51, rfl⟩, fun z h => by cases h; exact ⟨fun F => by kernel_rfl, fun F L => by simp [DV.Ok, DVs.Ok]⟩, fun h => by cases h⟩
def ti52 : TyI := ⟨.slice 50, 1, false, some (.nilslc), true⟩
theorem Aka_ : TyOk Try.prog 52 ti52 := ⟨by kernel_rfl, by kernel_rfl, Try.underlying52, fun z h => by cases h; exact ⟨fun F => by kernel_rfl, fun F L => by simp [DV.Ok, DVs.Ok]⟩, fun _ => ⟨Try.t52, _, by kernel_rfl, rfl, by decide, rfl, rfl, by kernel_rfl, fun zd h F => by cases h⟩⟩
def ti53 : TyI := ⟨.other, 1, false, some (.nilfn), false⟩
theorem Aeu_ : TyOk Try.prog 53 ti53 := ⟨by kernel_rfl, by kernel_rfl, ⟨_, Try.underlying53, rfl⟩, fun z h => by cases h; exact ⟨fun F => by kernel_rfl, fun F L => by simp [DV.Ok, DVs.Ok]⟩, fun h => by cases h⟩
def ti54 : TyI := ⟨.other, 1, false, some (.nilfn), false⟩
theorem Zr_ : TyOk Try.prog 54 ti54 := ⟨by kernel_rfl, by kernel_rfl, ⟨_, Try.underlying54, rfl⟩, fun z h => by cases h; exact ⟨fun F => by kernel_rfl, fun F L => by simp [DV.Ok, DVs.Ok]⟩, fun h => by cases h⟩
def ti55 : TyI := ⟨.other, 1, false, some (.nilfn), false⟩
theorem Apw_ : TyOk Try.prog 55 ti55 := ⟨by kernel_rfl, by kernel_rfl, ⟨_, Try.underlying55, rfl⟩, fun z h => by cases h; exact ⟨fun F => by kernel_rfl, fun F L => by simp [DV.Ok, DVs.Ok]⟩, fun h => by cases h⟩
def ti56 : TyI := ⟨.other, 1, false, some (.nilfn), false⟩
theorem Al0_ : TyOk Try.prog 56 ti56 := ⟨by kernel_rfl, by kernel_rfl, ⟨_, Try.underlying56, rfl⟩, fun z h => by cases h; exact ⟨fun F => by kernel_rfl, fun F L => by simp [DV.Ok, DVs.Ok]⟩, fun h => by cases h⟩
def ti57 : TyI := ⟨.other, 1, false, some (.nilfn), false⟩
theorem Aes_ : TyOk Try.prog 57 ti57 := ⟨by kernel_rfl, by kernel_rfl, ⟨_, Try.underlying57, rfl⟩, fun z h => by cases h; exact ⟨fun F => by kernel_rfl, fun F L => by simp [DV.Ok, DVs.Ok]⟩, fun h => by cases h⟩
def ti58 : TyI := ⟨.other, 1, false, some (.nilfn), false⟩
theorem Afn_ : TyOk Try.prog 58 ti58 := ⟨by kernel_rfl, by kernel_rfl, ⟨_, Try.underlying58, rfl⟩, fun z h => by cases h; exact ⟨fun F => by kernel_rfl, fun F L => by simp [DV.Ok, DVs.Ok]⟩, fun h => by cases h⟩
def ti59 : TyI := ⟨.other, 1, false, some (.nilfn), false⟩
theorem An5_ : TyOk Try.prog 59 ti59 := ⟨by kernel_rfl, by kernel_rfl, ⟨_, Try.underlying59, rfl⟩, fun z h => by cases h; exact ⟨fun F => by kernel_rfl, fun F L => by simp [DV.Ok, DVs.Ok]⟩, fun h => by cases h⟩
def ti60 : TyI := ⟨.other, 1, false, some (.nilfn), false⟩
theorem Adg_ : TyOk Try.prog 60 ti60 := ⟨by kernel_rfl, by kernel_rfl, ⟨_, Try.underlying60, rfl⟩, fun z h => by cases h; exact ⟨fun F => by kernel_rfl, fun F L => by simp [DV.Ok, DVs.Ok]⟩, fun h => by cases h⟩
def ti61 : TyI := ⟨.other, 1, false, some (.nilfn), false⟩
theorem Ae2_ : TyOk Try.prog 61 ti61 := ⟨by kernel_rfl, by kernel_rfl, ⟨_, Try.underlying61, rfl⟩, fun z h => by cases h; exact ⟨fun F => by kernel_rfl, fun F L => by simp [DV.Ok, DVs.Ok]⟩, fun h => by cases h⟩
def ti62 : TyI := ⟨.other, 1, false, some (.nilfn), false⟩
theorem Ak2_ : TyOk Try.prog 62 ti62 := ⟨by kernel_rfl, by kernel_rfl, ⟨_, Try.underlying62, rfl⟩, fun z h => by cases h; exact ⟨fun F => by kernel_rfl, fun F L => by simp [DV.Ok, DVs.Ok]⟩, fun h => by cases h⟩
def ti63 : TyI := ⟨.other, 1, false, some (.nilfn), false⟩
theorem Acw_ : TyOk Try.prog 63 ti63 := ⟨by kernel_rfl, by kernel_rfl, ⟨_, Try.underlying63, rfl⟩, fun z h => by cases h; exact ⟨fun F => by kernel_rfl, fun F L => by simp [DV.Ok, DVs.Ok]⟩, fun h => by cases h⟩
def ti64 : TyI := ⟨.other, 1, false, some (.nilptr), false⟩
theorem Apl_ : TyOk Try.prog 64 ti64 := ⟨by kernel_rfl, by kernel_rfl, ⟨_, Try.underlying64, rfl⟩, fun z h => by cases h; exact ⟨fun F => by kernel_rfl, fun F L => by simp [DV.Ok, DVs.Ok]⟩, fun h => by cases h⟩
def ti65 : TyI := ⟨.other, 1, false, some (.nilfn), false⟩
theorem Adx_ : TyOk Try.prog 65 ti65 := ⟨by kernel_rfl, by kernel_rfl, ⟨_, Try.underlying65, rfl⟩, fun z h => by cases h; exact ⟨fun F => by kernel_rfl, fun F L => by simp [DV.Ok, DVs.Ok]⟩, fun h => by cases h⟩
def ti66 : TyI := ⟨.other, 1, false, some (.nilfn), false⟩
theorem Apb_ : TyOk Try.prog 66 ti66 := ⟨by kernel_rfl, by kernel_rfl, ⟨_, Try.underlying66, rfl⟩, fun z h => by cases h; exact ⟨fun F => by kernel_rfl, fun F L => by simp [DV.Ok, DVs.Ok]⟩, fun h => by cases h⟩
def ti67 : TyI := ⟨.other, 1, false, some (.nilfn), false⟩
theorem Aqx_ : TyOk Try.prog 67 ti67 := ⟨by kernel_rfl, by kernel_rfl, ⟨_, Try.underlying67, rfl⟩, fun z h => by cases h; exact ⟨fun F => by kernel_rfl, fun F L => by simp [DV.Ok, DVs.Ok]⟩, fun h => by cases h⟩
def ti68 : TyI := ⟨.other, 1, false, some (.nilfn), false⟩
theorem Ai7_ : TyOk Try.prog 68 ti68 := ⟨by kernel_rfl, by kernel_rfl, ⟨_, Try.underlying68, rfl⟩, fun z h => by cases h; exact ⟨fun F => by kernel_rfl, fun F L => by simp [DV.Ok, DVs.Ok]⟩, fun h => by cases h⟩
def ti70 : TyI := ⟨.other, 1, false, some (.nilfn), false⟩
theorem Ag7_ : TyOk Try.prog 70 ti70 := ⟨by kernel_rfl, by kernel_rfl, ⟨_, Try.underlying70, rfl⟩, fun z h => by cases h; exact ⟨fun F => by kernel_rfl, fun F L => by simp [DV.Ok, DVs.Ok]⟩, fun h => by cases h⟩
def ti71 : TyI := ⟨.int .u64, 1, true, some (.int .u64 (0 : Int)), true⟩
theorem Afq_ : TyOk Try.prog 71 ti71 := ⟨by kernel_rfl, by kernel_rfl, Try.underlying71, fun z h => by cases h; exact ⟨fun F => by kernel_rfl, fun F L => by simp [DV.Ok, DVs.Ok]⟩, fun _ => ⟨Try.t71, _, by kernel_rfl, rfl, by decide, rfl, rfl, by kernel_rfl, fun zd h F => by cases h; kernel_rfl⟩⟩
def ti72 : TyI := ⟨.struct [(0, 22), (1, 3), (2, 71)], 3, false, some (.agg [.nilslc, .int .i64 (0 : Int), .int .u64 (0 : Int)]), true⟩
theorem Ahp_ : TyOk Try.prog 72 ti72 := ⟨by kernel_rfl, by kernel_rfl, ⟨⟨_, Try.underlying72, by kernel_rfl⟩, fun k q h => by
    rcases k with _ | _ | _ | k
    · cases h; kernel_rfl
    · cases h; kernel_rfl
    · cases h; kernel_rfl
    · simp at h⟩, fun z h => by cases h; exact ⟨fun F => by kernel_rfl, fun F L => by simp [DV.Ok, DVs.Ok]⟩, fun _ => ⟨Try.t72, _, by kernel_rfl, rfl, by decide, rfl, rfl, by kernel_rfl, fun zd h F => by cases h⟩⟩
def ti73 : TyI := ⟨.struct [(0, 22), (1, 3), (2, 71)], 3, false, some (.agg [.nilslc, .int .i64 (0 : Int), .int .u64 (0 : Int)]), true⟩
theorem Zg_ : TyOk Try.prog 73 ti73 := ⟨by kernel_rfl, by kernel_rfl, ⟨⟨_, Try.underlying73, by kernel_rfl⟩, fun k q h => by
    rcases k with _ | _ | _ | k
    · cases h; kernel_rfl
    · cases h; kernel_rfl
    · cases h; kernel_rfl
    · simp at h⟩, fun z h => by cases h; exact ⟨fun F => by kernel_rfl, fun F L => by simp [DV.Ok, DVs.Ok]⟩, fun _ => ⟨Try.t73, _, by kernel_rfl, rfl, by decide, rfl, rfl, by kernel_rfl, fun zd h F => by cases h⟩⟩
def ti74 : TyI := ⟨.other, 1, false, some (.nilfn), false⟩
theorem Ais_ : TyOk Try.prog 74 ti74 := ⟨by kernel_rfl, by kernel_rfl, ⟨_, Try.underlying74, rfl⟩, fun z h => by cases h; exact ⟨fun F => by kernel_rfl, fun F L => by simp [DV.Ok, DVs.Ok]⟩, fun h => by cases h⟩
def ti75 : TyI := ⟨.other, 1, false, some (.nilfn), false⟩
theorem Ahr_ : TyOk Try.prog 75 ti75 := ⟨by kernel_rfl, by kernel_rfl, ⟨_, Try.underlying75, rfl⟩, fun z h => by cases h; exact ⟨fun F => by kernel_rfl, fun F L => by simp [DV.Ok, DVs.Ok]⟩, fun h => by cases h⟩
def ti76 : TyI := ⟨.other, 1, false, some (.nilfn), false⟩
theorem Aj1_ : TyOk Try.prog 76 ti76 := ⟨by kernel_rfl, by kernel_rfl, ⟨_, Try.underlying76, rfl⟩, fun z h => by cases h; exact ⟨fun F => by kernel_rfl, fun F L => by simp [DV.Ok, DVs.Ok]⟩, fun h => by cases h⟩
def ti77 : TyI := ⟨.other, 1, false, some (.nilfn), false⟩
theorem Ai0_ : TyOk Try.prog 77 ti77 := ⟨by kernel_rfl, by kernel_rfl, ⟨_, Try.underlying77, rfl⟩, fun z h => by cases h; exact ⟨fun F => by kernel_rfl, fun F L => by simp [DV.Ok, DVs.Ok]⟩, fun h => by cases h⟩
def ti78 : TyI := ⟨.int .u64, 1, true, some (.int .u64 (0 : Int)), true⟩
theorem Ab2_ : TyOk Try.prog 78 ti78 := ⟨by kernel_rfl, by kernel_rfl, Try.underlying78, fun z h => by cases h; exact ⟨fun F => by kernel_rfl, fun F L => by simp [DV.Ok, DVs.Ok]⟩, fun _ => ⟨Try.t78, _, by kernel_rfl, rfl, by decide, rfl, rfl, by kernel_rfl, fun zd h F => by cases h; kernel_rfl⟩⟩
def ti80 : TyI := ⟨.other, 1, false, some (.nilfn), false⟩
theorem Anz_ : TyOk Try.prog 80 ti80 := ⟨by kernel_rfl, by kernel_rfl, ⟨_, Try.underlying80, rfl⟩, fun z h => by cases h; exact ⟨fun F => by kernel_rfl, fun F L => by simp [DV.Ok, DVs.Ok]⟩, fun h => by cases h⟩
def ti81 : TyI := ⟨.other, 1, false, some (.nilfn), false⟩
theorem Aig_ : TyOk Try.prog 81 ti81 := ⟨by kernel_rfl, by kernel_rfl, ⟨_, Try.underlying81, rfl⟩, fun z h => by cases h; exact ⟨fun F => by kernel_rfl, fun F L => by simp [DV.Ok, DVs.Ok]⟩, fun h => by cases h⟩
def ti82 : TyI := ⟨.other, 1, false, some (.nilfn), false⟩
theorem Aii_ : TyOk Try.prog 82 ti82 := ⟨by kernel_rfl, by kernel_rfl, ⟨_, Try.underlying82, rfl⟩, fun z h => by cases h; exact ⟨fun F => by kernel_rfl, fun F L => by simp [DV.Ok, DVs.Ok]⟩, fun h => by cases h⟩
def ti83 : TyI := ⟨.other, 1, false, some (.nilfn), false⟩
theorem Zy_ : TyOk Try.prog 83 ti83 := ⟨by kernel_rfl, by kernel_rfl, ⟨_, Try.underlying83, rfl⟩, fun z h => by cases h; exact ⟨fun F => by kernel_rfl, fun F L => by simp [DV.Ok, DVs.Ok]⟩, fun h => by cases h⟩
def ti84 : TyI := ⟨.other, 1, false, some (.nilfn), false⟩
theorem Abq_ : TyOk Try.prog 84 ti84 := ⟨by kernel_rfl, by kernel_rfl, ⟨_, Try.underlying84, rfl⟩, fun z h => by cases h; exact ⟨fun F => by kernel_rfl, fun F L => by simp [DV.Ok, DVs.Ok]⟩, fun h => by cases h⟩
def ti85 : TyI := ⟨.other, 1, false, some (.nilfn), false⟩
theorem Ak5_ : TyOk Try.prog 85 ti85 := ⟨by kernel_rfl, by kernel_rfl, ⟨_, Try.underlying85, rfl⟩, fun z h => by cases h; exact ⟨fun F => by kernel_rfl, fun F L => by simp [DV.Ok, DVs.Ok]⟩, fun h => by cases h⟩
def ti86 : TyI := ⟨.other, 1, false, some (.nilfn), false⟩
theorem Ad5_ : TyOk Try.prog 86 ti86 := ⟨by kernel_rfl, by kernel_rfl, ⟨_, Try.underlying86, rfl⟩, fun z h => by cases h; exact ⟨fun F => by kernel_rfl, fun F L => by simp [DV.Ok, DVs.Ok]⟩, fun h => by cases h⟩
def ti87 : TyI := ⟨.other, 1, false, some (.nilfn), false⟩
theorem Amj_ : TyOk Try.prog 87 ti87 := ⟨by kernel_rfl, by kernel_rfl, ⟨_, Try.underlying87, rfl⟩, fun z h => by cases h; exact ⟨fun F => by kernel_rfl, fun F L => by simp [DV.Ok, DVs.Ok]⟩, fun h => by cases h⟩
def ti89 : TyI := ⟨.other, 1, false, some (.nilfn), false⟩
theorem Ap1_ : TyOk Try.prog 89 ti89 := ⟨by kernel_rfl, by kernel_rfl, ⟨_, Try.underlying89, rfl⟩, fun z h => by cases h; exact ⟨fun F => by kernel_rfl, fun F L => by simp [DV.Ok, DVs.Ok]⟩, fun h => by cases h⟩
def ti90 : TyI := ⟨.int .u32, 1, true, some (.int .u32 (0 : Int)), true⟩
theorem Aio_ : TyOk Try.prog 90 ti90 := ⟨by kernel_rfl, by kernel_rfl, Try.underlying90, fun z h => by cases h; exact ⟨fun F => by kernel_rfl, fun F L => by simp [DV.Ok, DVs.Ok]⟩, fun _ => ⟨Try.t90, _, by kernel_rfl, rfl, by decide, rfl, rfl, by kernel_rfl, fun zd h F => by cases h; kernel_rfl⟩⟩
def ti92 : TyI := ⟨.other, 1, false, some (.nilfn), false⟩
theorem Ae0_ : TyOk Try.prog 92 ti92 := ⟨by kernel_rfl, by kernel_rfl, ⟨_, Try.underlying92, rfl⟩, fun z h => by cases h; exact ⟨fun F => by kernel_rfl, fun F L => by simp [DV.Ok, DVs.Ok]⟩, fun h => by cases h⟩
def ti94 : TyI := ⟨.other, 1, false, some (.nilfn), false⟩
theorem An6_ : TyOk Try.prog 94 ti94 := ⟨by kernel_rfl, by kernel_rfl, ⟨_, Try.underlying94, rfl⟩, fun z h => by cases h; exact ⟨fun F => by kernel_rfl, fun F L => by simp [DV.Ok, DVs.Ok]⟩, fun h => by cases h⟩
def ti95 : TyI := ⟨.other, 1, false, some (.nilfn), false⟩
theorem Ac0_ : TyOk Try.prog 95 ti95 := ⟨by kernel_rfl, by kernel_rfl, ⟨_, Try.underlying95, rfl⟩, fun z h => by cases h; exact ⟨fun F => by kernel_rfl, fun F L => by simp [DV.Ok, DVs.Ok]⟩, fun h => by cases h⟩
def ti96 : TyI := ⟨.other, 1, false, some (.nilfn), false⟩
theorem Agu_ : TyOk Try.prog 96 ti96 := ⟨by kernel_rfl, by kernel_rfl, ⟨_, Try.underlying96, rfl⟩, fun z h => by cases h; exact ⟨fun F => by kernel_rfl, fun F L => by simp [DV.Ok, DVs.Ok]⟩, fun h => by cases h⟩
def ti97 : TyI := ⟨.other, 1, false, some (.nilfn), false⟩
theorem Abc_ : TyOk Try.prog 97 ti97 := ⟨by kernel_rfl, by kernel_rfl, ⟨_, Try.underlying97, rfl⟩, fun z h => by cases h; exact ⟨fun F => by kernel_rfl, fun F L => by simp [DV.Ok, DVs.Ok]⟩, fun h => by cases h⟩
def ti98 : TyI := ⟨.other, 1, false, some (.nilfn), false⟩
theorem Akg_ : TyOk Try.prog 98 ti98 := ⟨by kernel_rfl, by kernel_rfl, ⟨_, Try.underlying98, rfl⟩, fun z h => by cases h; exact ⟨fun F => by kernel_rfl, fun F L => by simp [DV.Ok, DVs.Ok]⟩, fun h => by cases h⟩
def ti99 : TyI := ⟨.other, 1, false, some (.nilfn), false⟩
theorem Anu_ : TyOk Try.prog 99 ti99 := ⟨by kernel_rfl, by kernel_rfl, ⟨_, Try.underlying99, rfl⟩, fun z h => by cases h; exact ⟨fun F => by kernel_rfl, fun F L => by simp [DV.Ok, DVs.Ok]⟩, fun h => by cases h⟩
def ti100 : TyI := ⟨.other, 1, false, some (.nilfn), false⟩
theorem Ah9_ : TyOk Try.prog 100 ti100 := ⟨by kernel_rfl, by kernel_rfl, ⟨_, Try.underlying100, rfl⟩, fun z h => by cases h; exact ⟨fun F => by kernel_rfl, fun F L => by simp [DV.Ok, DVs.Ok]⟩, fun h => by cases h⟩
def ti101 : TyI := ⟨.other, 1, false, some (.nilfn), false⟩
theorem Ajy_ : TyOk Try.prog 101 ti101 := ⟨by kernel_rfl, by kernel_rfl, ⟨_, Try.underlying101, rfl⟩, fun z h => by cases h; exact ⟨fun F => by kernel_rfl, fun F L => by simp [DV.Ok, DVs.Ok]⟩, fun h => by cases h⟩
def ti107 : TyI := ⟨.other, 1, false, some (.nilfn), false⟩
theorem Apz_ : TyOk Try.prog 107 ti107 := ⟨by kernel_rfl, by kernel_rfl, ⟨_, Try.underlying107, rfl⟩, fun z h => by cases h; exact ⟨fun F => by kernel_rfl, fun F L => by simp [DV.Ok, DVs.Ok]⟩, fun h => by cases h⟩
def ti110 : TyI := ⟨.other, 1, false, some (.nilfn), false⟩
theorem Aqk_ : TyOk Try.prog 110 ti110 := ⟨by kernel_rfl, by kernel_rfl, ⟨_, Try.underlying110, rfl⟩, fun z h => by cases h; exact ⟨fun F => by kernel_rfl, fun F L => by simp [DV.Ok, DVs.Ok]⟩, fun h => by cases h⟩
def ti111 : TyI := ⟨.other, 1, false, some (.nilptr), false⟩
theorem Ai9_ : TyOk Try.prog 111 ti111 := ⟨by kernel_rfl, by kernel_rfl, ⟨_, Try.underlying111, rfl⟩, fun z h => by cases h; exact ⟨fun F => by kernel_rfl, fun F L => by simp [DV.Ok, DVs.Ok]⟩, fun h => by cases h⟩
def TTl : List (Option TyI) := [none, some ti1, some ti2, some ti3, some ti4, some ti5, none, none, none, some ti9, none, none, some ti12, some ti13, none, none, none, none, none, some ti19, none, some ti21, some ti22, some ti23, some ti24, some ti25, some ti26, some ti27, some ti28, none, some ti30, none, some ti32, none, some ti34, some ti35, some ti36, some ti37, some ti38, some ti39, some ti40, some ti41, some ti42, some ti43, some ti44, some ti45, some ti46, some ti47, none, some ti49, some ti50, some ti51, some ti52, some ti53, some ti54, some ti55, some ti56, some ti57, some ti58, some ti59, some ti60, some ti61, some ti62, some ti63, some ti64, some ti65, some ti66, some ti67, some ti68, none, some ti70, some ti71, some ti72, some ti73, some ti74, some ti75, some ti76, some ti77, some ti78, none, some ti80, some ti81, some ti82, some ti83, some ti84, some ti85, some ti86, some ti87, none, some ti89, some ti90, none, some ti92, none, some ti94, some ti95, some ti96, some ti97, some ti98, some ti99, some ti100, some ti101, none, none, none, none, none, some ti107, none, none, some ti110, some ti111, none, none, none, none, none]
def TT : TyT := lookT TTl
theorem tok : TOk Try.prog TT := Alx_ (show AllTy Try.prog 0 TTl from ⟨tyOk1, tyOk2, tyOk3, tyOk4, tyOk5, tyOk9, Aqa_, Akl_, Zi_, Aol_, Aar_, All_, Aho_, Af9_, Ao3_, Abj_, Aix_, Ad1_, Akt_, Apx_, Aqw_, An1_, Aa1_, Zo_, Ads_, Aew_, Ael_, An2_, Am1_, Aqe_, Ahy_, Abs_, Amw_, Aq5_, Aed_, Ah3_, Aka_, Aeu_, Zr_, Apw_, Al0_, Aes_, Afn_, An5_, Adg_, Ae2_, Ak2_, Acw_, Apl_, Adx_, Apb_, Aqx_, Ai7_, Ag7_, Afq_, Ahp_, Zg_, Ais_, Ahr_, Aj1_, Ai0_, Ab2_, Anz_, Aig_, Aii_, Zy_, Abq_, Ak5_, Ad5_, Amj_, Ap1_, Aio_, Ae0_, An6_, Ac0_, Agu_, Abc_, Akg_, Anu_, Ah9_, Ajy_, Apz_, Aqk_, Ai9_, trivial⟩)
theorem mixed : Try.prog.follows .mixedOrders = true := by kernel_rfl
end Go.Proofs.Ytmgpbchacndndaa.AM
