/-
  The law FnExactDividedOf returns true, whatever the input, and the input reads as it did: the program's DividedOf and the reference's give the same differences.
-/
import Derived.Test.YtbhmllcnfdndhaaS1
import Derived.Test.YtbhmllcnfdndhaaL2
set_option linter.unusedSimpArgs false
set_option linter.unusedVariables false
set_option maxRecDepth 100000
namespace Go.Proofs.Ytbhmllcnfdndhaa
open Go.ChangeShapes Go.WideShapes Go.ChangeAt Go.RowKit
open Go.Proofs.Ytbhmllcnfdndhaa.AM

theorem Try.own : ownKnob Try.prog.godebug = none := by kernel_rfl
theorem Try.laidOut : laidOutB Try.prog = true := by kernel_rfl

theorem divided_fn (s t : AV) (H : Heap) (hs : SlA cF H s) (ht : SlA cF H t) : ∃ H', FnOk Try.prog 5 [s, t] H (.bool true) H' := by
  obtain ⟨n, hn, h1⟩ := hs
  obtain ⟨m, hm, h2⟩ := ht
  have hnl := slen_lenA hn Try.underlying22
  have hml := slen_lenA hm Try.underlying22
  have hO : SoundO Try.prog (tab []) := tab_nil _
  by_cases g1 : (1048576 : Int) < n
  · refine ⟨H, FnOk_of hO Try.func5 Try.call5 rfl fun hws hin => awp_ok hO _ _ _ _ ?_⟩
    simp [Try.ntmps5, hnl, g1]
    exact ret_here hws (by simp) (by simp [AV.within])
  by_cases g2 : (1048576 : Int) < m
  · refine ⟨H, FnOk_of hO Try.func5 Try.call5 rfl fun hws hin => awp_ok hO _ _ _ _ ?_⟩
    simp [Try.ntmps5, hnl, hml, g1, g2]
    exact ret_here hws (by simp) (by simp [AV.within])
  obtain ⟨xs, hxs, kx⟩ := h1 (by unfold maxN; omega)
  obtain ⟨ys, hys, ky⟩ := h2 (by unfold maxN; omega)
  by_cases hw : WS H
  · let F : Fr := ⟨H, [], List.nodup_nil, by simp, hw, fun k => (([s, t] : List AV)[k]?).getD .top⟩
    obtain ⟨H', h, _⟩ := laws_FnExactDividedOf_fn xs ys F rfl (st_nil rfl) ⟨bslc_ok rfl kx, bslc_ok rfl ky, trivial⟩ (divided_law xs ys (by unfold maxN; omega) (by unfold maxN; omega))
    exact ⟨H', h⟩
  · exact ⟨H, FnOk.ws fun h => absurd h hw⟩

theorem divided_lifted (os : Os) (started : os.Started) (H : Type) (enc : TypeId × Value → H) :
    ReturnsInHanded {} Try.checked os 5 .any (Rows.fnExactDividedOfSpec.pre6 enc Try.prog Try.f5 Rows.fnExactDividedOfRow.domain false) (Rows.fnExactDividedOfSpec.post enc Try.prog Try.f5 false true false false) := by
  refine returnsInHanded_of_change (C := Try.checked) Try.own started (by kernel_rfl) Try.func5
    (ChangeSpec.witness6 (enc := enc) (C := Try.checked) false ⟨#[], #[.slice none 0 0, .slice none 0 0], []⟩ 8 (by kernel_rfl) (by kernel_rfl) (by kernel_rfl) (by kernel_rfl)) ?_
  intro W base args ds gs before hval0 hW hcnd _
  have hval : ∀ (j : Nat) t v, Try.f5.params[j]? = some t → args[j]? = some v → Value.okWide Try.prog W .any base t v := hval0
  have hW' := hW
  obtain ⟨p, q, hA0, hV, rfl, hfz, hnd⟩ := hW
  have hA : DataW.TrodAll enc Try.prog W 0 (fun _ => true) true Try.f5.params.toList args.toList ds p := hA0
  rw [Try.params5] at hA hval
  obtain ⟨v0, v1, d0, d1, p0, p1, rfl, rfl, rfl, h0, h1⟩ := trodAll_two hA
  obtain ⟨rfl, rfl⟩ := trodVars_none hV
  obtain ⟨H1, μ1, s, e1, k1, l1⟩ := arg_f32s Try.underlying22 Try.underlying23 (by kernel_rfl) (hval 0 22 v0 rfl rfl) h0 (fun i B h => by simp at h) (HR.nil W)
  obtain ⟨H2, μ2, t, e2, k2, l2⟩ := arg_f32s Try.underlying22 Try.underlying23 (by kernel_rfl) (hval 1 22 v1 rfl rfl) h1 e1.no e1.hr
  obtain ⟨H', hlaw⟩ := divided_fn s t H2 (e2.sl l1) l2
  refine (law_calls hlaw e2.hr (VRs.of2 (e2.vr _ _ k1) k2) e2.no (Try.call5 _ W)).mono fun e W' ⟨he, hb⟩ => ⟨_, he, ?_⟩
  exact law_post Try.laidOut (by rw [Try.params5]; exact of_decide_eq_true (by kernel_rfl)) rfl rfl rfl Try.underlying4 hW' hb

theorem divided_holds : Rows.FnExactDividedOfSaid :=
  OpenClaim.holds_of_wide 5 Try.f5 rfl rfl rfl rfl rfl rfl rfl ⟨rfl, rfl, rfl, rfl, rfl⟩ rfl rfl rfl rfl rfl (by kernel_rfl) Try.func5 (by kernel_rfl)
    (of_decide_eq_true (by kernel_rfl)) (by unfold Func.isWrapper; first | (rw [if_pos (by decide +kernel)]; kernel_rfl) | (rw [if_neg (by decide +kernel)]; exact ⟨rfl, rfl⟩))
    (fun os started H enc _ => divided_lifted os started H enc)

end Go.Proofs.Ytbhmllcnfdndhaa
