/- The types of this seat's program, as the machine asks for them. -/
import Derived.Test.YtbhmllcnfdndhaaC5
import Derived.Test.YtbhmllcnfdndhaaProg
namespace Go.Proofs.Ytbhmllcnfdndhaa.AM
open Go.Proofs
set_option maxRecDepth 100000
set_option maxHeartbeats 4000000
set_option linter.unusedSimpArgs false
set_option linter.unusedVariables false
theorem mixed : Try.prog.follows .mixedOrders = true := by kernel_rfl
theorem sz2 : szA Try.prog 2 = some 1 := by kernel_rfl
theorem ft2 : flatT Try.prog 2 = true := by kernel_rfl
theorem ze2 : zeroA Try.prog 2 = some (.int .i64 0) := by kernel_rfl
theorem sz3 : szA Try.prog 3 = some 1 := by kernel_rfl
theorem ft3 : flatT Try.prog 3 = true := by kernel_rfl
theorem ze3 : zeroA Try.prog 3 = some (.int .i64 0) := by kernel_rfl
theorem sz4 : szA Try.prog 4 = some 1 := by kernel_rfl
theorem ft4 : flatT Try.prog 4 = true := by kernel_rfl
theorem ze4 : zeroA Try.prog 4 = some (.bool false) := by kernel_rfl
theorem sz5 : szA Try.prog 5 = some 1 := by kernel_rfl
theorem ft5 : flatT Try.prog 5 = true := by kernel_rfl
theorem ze5 : zeroA Try.prog 5 = some (.int .u8 0) := by kernel_rfl
theorem sz9 : szA Try.prog 9 = some 1 := by kernel_rfl
theorem ft9 : flatT Try.prog 9 = false := by kernel_rfl
theorem ze9 : zeroA Try.prog 9 = some (.str ByteArray.empty) := by kernel_rfl
theorem sz12 : szA Try.prog 12 = some 1 := by kernel_rfl
theorem ft12 : flatT Try.prog 12 = true := by kernel_rfl
theorem ze12 : zeroA Try.prog 12 = some (.int .u64 0) := by kernel_rfl
theorem sz13 : szA Try.prog 13 = some 2 := by kernel_rfl
theorem ft13 : flatT Try.prog 13 = false := by kernel_rfl
theorem fo13_0 : fieldOff Try.prog 13 0 = some (0, 9) := by kernel_rfl
theorem fo13_1 : fieldOff Try.prog 13 1 = some (1, 12) := by kernel_rfl
theorem ze13 : zeroA Try.prog 13 = some (.agg [.str ByteArray.empty, .int .u64 0]) := by kernel_rfl
theorem sz19 : szA Try.prog 19 = some 1 := by kernel_rfl
theorem ft19 : flatT Try.prog 19 = false := by kernel_rfl
theorem fo19_0 : fieldOff Try.prog 19 0 = some (0, 17) := by kernel_rfl
theorem ze19 : zeroA Try.prog 19 = some (.agg [.nilptr]) := by kernel_rfl
theorem sz21 : szA Try.prog 21 = some 1 := by kernel_rfl
theorem ft21 : flatT Try.prog 21 = true := by kernel_rfl
theorem ze21 : zeroA Try.prog 21 = some (.int .i32 0) := by kernel_rfl
theorem sz22 : szA Try.prog 22 = some 1 := by kernel_rfl
theorem ft22 : flatT Try.prog 22 = false := by kernel_rfl
theorem ze22 : zeroA Try.prog 22 = some (.nilslc) := by kernel_rfl
theorem em22 : elemA Try.prog 22 = some 23 := elemA_of Try.underlying22
theorem el22 : Elem Try.prog 22 23 cF 0 := ⟨Try.underlying22, by kernel_rfl, ⟨_, Try.underlying23, rfl⟩, ⟨Try.t23, _, by kernel_rfl, rfl, by decide, rfl, rfl, by kernel_rfl, rfl⟩⟩
theorem sz23 : szA Try.prog 23 = some 1 := by kernel_rfl
theorem ft23 : flatT Try.prog 23 = true := by kernel_rfl
theorem ze23 : zeroA Try.prog 23 = some (.flt .f32 0) := by kernel_rfl
theorem sz28 : szA Try.prog 28 = some 1 := by kernel_rfl
theorem ft28 : flatT Try.prog 28 = true := by kernel_rfl
theorem ze28 : zeroA Try.prog 28 = some (.flt .f64 0) := by kernel_rfl
theorem sz31 : szA Try.prog 31 = some 3 := by kernel_rfl
theorem ft31 : flatT Try.prog 31 = false := by kernel_rfl
theorem fo31_0 : fieldOff Try.prog 31 0 = some (0, 22) := by kernel_rfl
theorem fo31_1 : fieldOff Try.prog 31 1 = some (1, 22) := by kernel_rfl
theorem fo31_2 : fieldOff Try.prog 31 2 = some (2, 22) := by kernel_rfl
theorem ze31 : zeroA Try.prog 31 = some (.agg [.nilslc, .nilslc, .nilslc]) := by kernel_rfl
theorem sz32 : szA Try.prog 32 = some 3 := by kernel_rfl
theorem ft32 : flatT Try.prog 32 = false := by kernel_rfl
theorem fo32_0 : fieldOff Try.prog 32 0 = some (0, 22) := by kernel_rfl
theorem fo32_1 : fieldOff Try.prog 32 1 = some (1, 22) := by kernel_rfl
theorem fo32_2 : fieldOff Try.prog 32 2 = some (2, 22) := by kernel_rfl
theorem ze32 : zeroA Try.prog 32 = some (.agg [.nilslc, .nilslc, .nilslc]) := by kernel_rfl
theorem sz35 : szA Try.prog 35 = some 3 := by kernel_rfl
theorem ft35 : flatT Try.prog 35 = false := by kernel_rfl
theorem fo35_0 : fieldOff Try.prog 35 0 = some (0, 22) := by kernel_rfl
theorem fo35_1 : fieldOff Try.prog 35 1 = some (1, 22) := by kernel_rfl
theorem fo35_2 : fieldOff Try.prog 35 2 = some (2, 22) := by kernel_rfl
theorem ze35 : zeroA Try.prog 35 = some (.agg [.nilslc, .nilslc, .nilslc]) := by kernel_rfl
theorem sz42 : szA Try.prog 42 = some 3 := by kernel_rfl
theorem ft42 : flatT Try.prog 42 = false := by kernel_rfl
theorem fo42_0 : fieldOff Try.prog 42 0 = some (0, 2) := by kernel_rfl
theorem fo42_1 : fieldOff Try.prog 42 1 = some (1, 2) := by kernel_rfl
theorem fo42_2 : fieldOff Try.prog 42 2 = some (2, 22) := by kernel_rfl
theorem ze42 : zeroA Try.prog 42 = some (.agg [.int .i64 0, .int .i64 0, .nilslc]) := by kernel_rfl
theorem sz43 : szA Try.prog 43 = some 3 := by kernel_rfl
theorem ft43 : flatT Try.prog 43 = false := by kernel_rfl
theorem fo43_0 : fieldOff Try.prog 43 0 = some (0, 2) := by kernel_rfl
theorem fo43_1 : fieldOff Try.prog 43 1 = some (1, 2) := by kernel_rfl
theorem fo43_2 : fieldOff Try.prog 43 2 = some (2, 22) := by kernel_rfl
theorem ze43 : zeroA Try.prog 43 = some (.agg [.int .i64 0, .int .i64 0, .nilslc]) := by kernel_rfl
theorem sz44 : szA Try.prog 44 = some 4 := by kernel_rfl
theorem ft44 : flatT Try.prog 44 = false := by kernel_rfl
theorem fo44_0 : fieldOff Try.prog 44 0 = some (0, 9) := by kernel_rfl
theorem fo44_1 : fieldOff Try.prog 44 1 = some (1, 43) := by kernel_rfl
theorem ze44 : zeroA Try.prog 44 = some (.agg [.str ByteArray.empty, .int .i64 0, .int .i64 0, .nilslc]) := by kernel_rfl
theorem sz45 : szA Try.prog 45 = some 4 := by kernel_rfl
theorem ft45 : flatT Try.prog 45 = false := by kernel_rfl
theorem fo45_0 : fieldOff Try.prog 45 0 = some (0, 9) := by kernel_rfl
theorem fo45_1 : fieldOff Try.prog 45 1 = some (1, 43) := by kernel_rfl
theorem ze45 : zeroA Try.prog 45 = some (.agg [.str ByteArray.empty, .int .i64 0, .int .i64 0, .nilslc]) := by kernel_rfl
theorem sz48 : szA Try.prog 48 = some 3 := by kernel_rfl
theorem ft48 : flatT Try.prog 48 = false := by kernel_rfl
theorem fo48_0 : fieldOff Try.prog 48 0 = some (0, 2) := by kernel_rfl
theorem fo48_1 : fieldOff Try.prog 48 1 = some (1, 2) := by kernel_rfl
theorem fo48_2 : fieldOff Try.prog 48 2 = some (2, 22) := by kernel_rfl
theorem ze48 : zeroA Try.prog 48 = some (.agg [.int .i64 0, .int .i64 0, .nilslc]) := by kernel_rfl
theorem sz49 : szA Try.prog 49 = some 4 := by kernel_rfl
theorem ft49 : flatT Try.prog 49 = false := by kernel_rfl
theorem fo49_0 : fieldOff Try.prog 49 0 = some (0, 9) := by kernel_rfl
theorem fo49_1 : fieldOff Try.prog 49 1 = some (1, 48) := by kernel_rfl
theorem ze49 : zeroA Try.prog 49 = some (.agg [.str ByteArray.empty, .int .i64 0, .int .i64 0, .nilslc]) := by kernel_rfl
theorem sz50 : szA Try.prog 50 = some 4 := by kernel_rfl
theorem ft50 : flatT Try.prog 50 = false := by kernel_rfl
theorem fo50_0 : fieldOff Try.prog 50 0 = some (0, 9) := by kernel_rfl
theorem fo50_1 : fieldOff Try.prog 50 1 = some (1, 48) := by kernel_rfl
theorem ze50 : zeroA Try.prog 50 = some (.agg [.str ByteArray.empty, .int .i64 0, .int .i64 0, .nilslc]) := by kernel_rfl
theorem sz66 : szA Try.prog 66 = some 1 := by kernel_rfl
theorem ft66 : flatT Try.prog 66 = false := by kernel_rfl
theorem ze66 : zeroA Try.prog 66 = some (.nilptr) := by kernel_rfl
theorem sz72 : szA Try.prog 72 = some 1 := by kernel_rfl
theorem ft72 : flatT Try.prog 72 = false := by kernel_rfl
theorem ze72 : zeroA Try.prog 72 = some (.nilptr) := by kernel_rfl
theorem sz83 : szA Try.prog 83 = some 1 := by kernel_rfl
theorem ft83 : flatT Try.prog 83 = false := by kernel_rfl
theorem ze83 : zeroA Try.prog 83 = some (.nilptr) := by kernel_rfl
theorem sz84 : szA Try.prog 84 = some 3 := by kernel_rfl
theorem ft84 : flatT Try.prog 84 = false := by kernel_rfl
theorem fo84_0 : fieldOff Try.prog 84 0 = some (0, 22) := by kernel_rfl
theorem fo84_1 : fieldOff Try.prog 84 1 = some (1, 22) := by kernel_rfl
theorem fo84_2 : fieldOff Try.prog 84 2 = some (2, 23) := by kernel_rfl
theorem ze84 : zeroA Try.prog 84 = some (.agg [.nilslc, .nilslc, .flt .f32 0]) := by kernel_rfl
theorem sz85 : szA Try.prog 85 = some 3 := by kernel_rfl
theorem ft85 : flatT Try.prog 85 = false := by kernel_rfl
theorem fo85_0 : fieldOff Try.prog 85 0 = some (0, 22) := by kernel_rfl
theorem fo85_1 : fieldOff Try.prog 85 1 = some (1, 22) := by kernel_rfl
theorem fo85_2 : fieldOff Try.prog 85 2 = some (2, 23) := by kernel_rfl
theorem ze85 : zeroA Try.prog 85 = some (.agg [.nilslc, .nilslc, .flt .f32 0]) := by kernel_rfl
theorem sz92 : szA Try.prog 92 = some 1 := by kernel_rfl
theorem ft92 : flatT Try.prog 92 = false := by kernel_rfl
theorem ze92 : zeroA Try.prog 92 = some (.nilptr) := by kernel_rfl
theorem sz100 : szA Try.prog 100 = some 1 := by kernel_rfl
theorem ft100 : flatT Try.prog 100 = true := by kernel_rfl
theorem ze100 : zeroA Try.prog 100 = some (.int .u64 0) := by kernel_rfl
theorem sz109 : szA Try.prog 109 = some 1 := by kernel_rfl
theorem ft109 : flatT Try.prog 109 = true := by kernel_rfl
theorem ze109 : zeroA Try.prog 109 = some (.int .u32 0) := by kernel_rfl
theorem sz113 : szA Try.prog 113 = some 1 := by kernel_rfl
theorem ft113 : flatT Try.prog 113 = false := by kernel_rfl
theorem ze113 : zeroA Try.prog 113 = some (.nilptr) := by kernel_rfl
theorem sz119 : szA Try.prog 119 = some 1 := by kernel_rfl
theorem ft119 : flatT Try.prog 119 = false := by kernel_rfl
theorem ze119 : zeroA Try.prog 119 = some (.nilptr) := by kernel_rfl
theorem cn_f32_1065353216 : canon .f32 1065353216 = 1065353216 := by kernel_rfl
theorem cn_f64_4607182418800017408 : canon .f64 4607182418800017408 = 4607182418800017408 := by kernel_rfl
theorem cn_f64_9218868437227405311 : canon .f64 9218868437227405311 = 9218868437227405311 := by kernel_rfl
attribute [simp] sz2 ft2 Try.underlying2 ze2 sz3 ft3 Try.underlying3 ze3 sz4 ft4 Try.underlying4 ze4 sz5 ft5 Try.underlying5 ze5 sz9 ft9 Try.underlying9 ze9 sz12 ft12 Try.underlying12 ze12 sz13 ft13 Try.underlying13 fo13_0 fo13_1 ze13 sz19 ft19 Try.underlying19 fo19_0 ze19 sz21 ft21 Try.underlying21 ze21 sz22 ft22 Try.underlying22 ze22 em22 sz23 ft23 Try.underlying23 ze23 sz28 ft28 Try.underlying28 ze28 sz31 ft31 Try.underlying31 fo31_0 fo31_1 fo31_2 ze31 sz32 ft32 Try.underlying32 fo32_0 fo32_1 fo32_2 ze32 sz35 ft35 Try.underlying35 fo35_0 fo35_1 fo35_2 ze35 sz42 ft42 Try.underlying42 fo42_0 fo42_1 fo42_2 ze42 sz43 ft43 Try.underlying43 fo43_0 fo43_1 fo43_2 ze43 sz44 ft44 Try.underlying44 fo44_0 fo44_1 ze44 sz45 ft45 Try.underlying45 fo45_0 fo45_1 ze45 sz48 ft48 Try.underlying48 fo48_0 fo48_1 fo48_2 ze48 sz49 ft49 Try.underlying49 fo49_0 fo49_1 ze49 sz50 ft50 Try.underlying50 fo50_0 fo50_1 ze50 sz66 ft66 Try.underlying66 ze66 sz72 ft72 Try.underlying72 ze72 sz83 ft83 Try.underlying83 ze83 sz84 ft84 Try.underlying84 fo84_0 fo84_1 fo84_2 ze84 sz85 ft85 Try.underlying85 fo85_0 fo85_1 fo85_2 ze85 sz92 ft92 Try.underlying92 ze92 sz100 ft100 Try.underlying100 ze100 sz109 ft109 Try.underlying109 ze109 sz113 ft113 Try.underlying113 ze113 sz119 ft119 Try.underlying119 ze119 cn_f32_1065353216 cn_f64_4607182418800017408 cn_f64_9218868437227405311
end Go.Proofs.Ytbhmllcnfdndhaa.AM
