/-
  The law FnExactShiftTimes returns true, whatever the input, and the input reads as it did.
-/
import Derived.Test.YtjniaobboclniaaS1
import Derived.Test.YtjniaobboclniaaL4
set_option linter.unusedSimpArgs false
set_option linter.unusedVariables false
set_option maxRecDepth 100000
namespace Go.Proofs.Ytjniaobboclniaa
open Go.ChangeShapes Go.WideShapes Go.ChangeAt Go.RowKit
open Go.Proofs.Ytjniaobboclniaa.AM

theorem Try.own : ownKnob Try.prog.godebug = none := by kernel_rfl
theorem Try.laidOut : laidOutB Try.prog = true := by kernel_rfl

theorem fnExactShiftTimes_fn (s0 : AV) (s1 : AV) (H : Heap) (hs0 : SlA cF H s0) (hs1 : SlA cF H s1) : ∃ H', FnOk Try.prog 7 [s0, s1] H (.bool true) H' := by
  obtain ⟨n0, hn0, h0⟩ := hs0
  have hl0 := slen_lenA hn0 Try.underlying44
  obtain ⟨n1, hn1, h1⟩ := hs1
  have hl1 := slen_lenA hn1 Try.underlying44
  have hO : SoundO Try.prog (tab []) := tab_nil _
  by_cases g0 : (1048576 : Int) < n0
  · refine ⟨H, FnOk_of hO Try.func7 Try.call7 rfl fun hws hin => awp_ok hO _ _ _ _ ?_⟩
    simp [Try.ntmps7, hl0, g0]
    exact ret_here hws (by simp) (by simp [AV.within])
  by_cases g1 : (1048576 : Int) < n1
  · refine ⟨H, FnOk_of hO Try.func7 Try.call7 rfl fun hws hin => awp_ok hO _ _ _ _ ?_⟩
    simp [Try.ntmps7, hl0, hl1, g0, g1]
    exact ret_here hws (by simp) (by simp [AV.within])
  obtain ⟨x0, hx0, k0⟩ := h0 (by unfold maxN; omega)
  obtain ⟨x1, hx1, k1⟩ := h1 (by unfold maxN; omega)
  by_cases hw : WS H
  · let F : Fr := ⟨H, [], List.nodup_nil, by simp, hw, fun k => (([s0, s1] : List AV)[k]?).getD .top⟩
    obtain ⟨H', h, _⟩ := laws_FnExactShiftTimes_fn x0 x1 F rfl (st_nil rfl) ⟨bslc_ok rfl k0, bslc_ok rfl k1, trivial⟩ (shT_law x0 x1 (by unfold maxN; omega) (by unfold maxN; omega))
    exact ⟨H', h⟩
  · exact ⟨H, FnOk.ws fun h => absurd h hw⟩

theorem fnExactShiftTimes_lifted (os : Os) (started : os.Started) (H : Type) (enc : TypeId × Value → H) :
    ReturnsInHanded {} Try.checked os 7 .any (Rows.fnExactShiftTimesSpec.pre6 enc Try.prog Try.f7 Rows.fnExactShiftTimesRow.domain false) (Rows.fnExactShiftTimesSpec.post enc Try.prog Try.f7 false true false false) := by
  refine returnsInHanded_of_change (C := Try.checked) Try.own started (by kernel_rfl) Try.func7
    (ChangeSpec.witness6 (enc := enc) (C := Try.checked) false ⟨#[], #[.slice none 0 0, .slice none 0 0], []⟩ 8 (by kernel_rfl) (by kernel_rfl) (by kernel_rfl) (by kernel_rfl)) ?_
  intro W base args ds gs before hval0 hW hcnd _
  have hval : ∀ (j : Nat) t v, Try.f7.params[j]? = some t → args[j]? = some v → Value.okWide Try.prog W .any base t v := hval0
  have hW' := hW
  obtain ⟨p, q, hA0, hV, rfl, hfz, hnd⟩ := hW
  have hA : DataW.TrodAll enc Try.prog W 0 (fun _ => true) true Try.f7.params.toList args.toList ds p := hA0
  rw [Try.params7] at hA hval
  obtain ⟨v0, v1, d0, d1, p0, p1, rfl, rfl, rfl, t0, t1⟩ := trodAll_two hA
  obtain ⟨rfl, rfl⟩ := trodVars_none hV
  obtain ⟨H0, μ0, s0, e0, r0, l0⟩ := arg_f32s Try.underlying44 Try.underlying113 (by kernel_rfl) (hval 0 44 v0 rfl rfl) t0 (fun i B h => by simp at h) (HR.nil W)
  obtain ⟨H1, μ1, s1, e1, r1, l1⟩ := arg_f32s Try.underlying44 Try.underlying113 (by kernel_rfl) (hval 1 44 v1 rfl rfl) t1 e0.no e0.hr
  obtain ⟨H', hlaw⟩ := fnExactShiftTimes_fn s0 s1 H1 (e1.sl l0) l1
  refine (law_calls hlaw e1.hr (VRs.of2 (e1.vr _ _ r0) r1) e1.no (Try.call7 _ W)).mono fun e W' ⟨he, hb⟩ => ⟨_, he, ?_⟩
  exact law_post Try.laidOut (by rw [Try.params7]; exact of_decide_eq_true (by kernel_rfl)) rfl rfl rfl Try.underlying4 hW' hb

theorem fnExactShiftTimes_holds : Rows.FnExactShiftTimesSaid :=
  OpenClaim.holds_of_wide 7 Try.f7 rfl rfl rfl rfl rfl rfl rfl ⟨rfl, rfl, rfl, rfl, rfl⟩ rfl rfl rfl rfl rfl (by kernel_rfl) Try.func7 (by kernel_rfl)
    (of_decide_eq_true (by kernel_rfl)) (by unfold Func.isWrapper; first | (rw [if_pos (by decide +kernel)]; kernel_rfl) | (rw [if_neg (by decide +kernel)]; exact ⟨rfl, rfl⟩))
    (fun os started H enc _ => fnExactShiftTimes_lifted os started H enc)

end Go.Proofs.Ytjniaobboclniaa
