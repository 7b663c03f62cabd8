/- Contracts: P5. -/
import Derived.Test.YtbhmllcnfdndhaaP4
namespace Go.Proofs.Ytbhmllcnfdndhaa.AM
open Go.Proofs
set_option maxRecDepth 100000
set_option maxHeartbeats 4000000
set_option linter.unusedSimpArgs false
set_option linter.unusedVariables false

theorem newton_law (s t : AV) (a : Nat) (H : Heap) (hs : SlA cF H s) (ht : SlA cF H t) :
    FnOk Try.prog 3 [s, t, .flt .f32 a] H (.bool true) H := by
  obtain ⟨n, hn, h1⟩ := hs
  obtain ⟨m, hm, h2⟩ := ht
  have hnl := slen_lenA hn Try.underlying22
  have hml := slen_lenA hm Try.underlying22
  have hO : SoundO Try.prog (tab []) := tab_nil _
  by_cases g1 : (1048576 : Int) < n
  · refine FnOk_of hO Try.func3 Try.call3 rfl fun hws hin => awp_ok hO _ _ _ _ ?_
    simp [Try.ntmps3, hnl, g1]
    exact ret_here hws (by simp) (by simp)
  by_cases g2 : (1048576 : Int) < m
  · refine FnOk_of hO Try.func3 Try.call3 rfl fun hws hin => awp_ok hO _ _ _ _ ?_
    simp [Try.ntmps3, hnl, hml, g1, g2]
    exact ret_here hws (by simp) (by simp)
  obtain ⟨xs, hxs, _⟩ := h1 (by unfold maxL; omega)
  obtain ⟨ds, hds, _⟩ := h2 (by unfold maxL; omega)
  exact F_laws_FnExactNewtonAt_fn s t a H xs hxs ds hds

end Go.Proofs.Ytbhmllcnfdndhaa.AM
