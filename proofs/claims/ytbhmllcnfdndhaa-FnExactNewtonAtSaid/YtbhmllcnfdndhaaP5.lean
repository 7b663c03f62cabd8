/- Contracts: P5. -/
import Derived.Test.YtbhmllcnfdndhaaP4
namespace Go.Proofs.Ytbhmllcnfdndhaa.AM
open Go.Proofs
set_option maxRecDepth 100000
set_option maxHeartbeats 4000000
set_option linter.unusedSimpArgs false
set_option linter.unusedVariables false

theorem newton_law (s t : AV) (a : Nat) (H : Heap) (hs : (∃ xs, rd cF H s = some xs) ∨ ∃ r n, s = .slc r n ∧ live H r = true ∧ maxL < n) (ht : (∃ xs, rd cF H t = some xs) ∨ ∃ r n, t = .slc r n ∧ live H r = true ∧ maxL < n) :
    FnOk Try.prog 3 [s, t, .flt .f32 a] H (.bool true) H := by
  rcases hs with ⟨xs, hxs⟩ | ⟨r, n, rfl, hl, hn⟩
  · rcases ht with ⟨ds, hds⟩ | ⟨r, n, rfl, hl, hn⟩
    · exact F_laws_FnExactNewtonAt_fn s t a H xs hxs ds hds
    · have hO : SoundO Try.prog (tab []) := tab_nil _
      refine FnOk_of hO Try.func3 Try.call3 rfl fun hws hin => awp_ok hO _ _ _ _ ?_
      have hnxs := rd_lenA hxs Try.underlying22
      have hbig : (1048576 : Int) < n := by unfold maxL at hn; omega
      by_cases h1 : (1048576 : Int) < xs.length
      · simp [Try.ntmps3, hnxs, h1]
        exact ret_here hws (by simp) (by simp)
      · simp [Try.ntmps3, hnxs, h1, hl, hbig]
        exact ret_here hws (by simp) (by simp)
  · have hO : SoundO Try.prog (tab []) := tab_nil _
    refine FnOk_of hO Try.func3 Try.call3 rfl fun hws hin => awp_ok hO _ _ _ _ ?_
    have hbig : (1048576 : Int) < n := by unfold maxL at hn; omega
    simp [Try.ntmps3, hl, hbig]
    exact ret_here hws (by simp) (by simp)

end Go.Proofs.Ytbhmllcnfdndhaa.AM
