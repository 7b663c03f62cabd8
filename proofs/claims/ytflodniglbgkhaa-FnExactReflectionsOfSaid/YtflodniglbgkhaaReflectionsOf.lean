/-
  The law FnExactReflectionsOf returns true, whatever the input, and the input reads as it did.
-/
import Derived.Test.YtflodniglbgkhaaS2
import Derived.Test.YtflodniglbgkhaaP13
set_option linter.unusedSimpArgs false
set_option linter.unusedVariables false
set_option maxRecDepth 100000
namespace Go.Proofs.Ytflodniglbgkhaa
open Go.ChangeShapes Go.WideShapes Go.ChangeAt Go.RowKit
open Go.Proofs.Ytflodniglbgkhaa.AM

theorem Try.own : ownKnob Try.prog.godebug = none := by kernel_rfl
theorem Try.laidOut : laidOutB Try.prog = true := by kernel_rfl

theorem fnExactReflectionsOf_fn (s0 : AV) (H : Heap) (hs0 : SlA cF H s0) : ∃ H', FnOk Try.prog 3 [s0] H (.bool true) H' := by
  obtain ⟨n0, hn0, h0⟩ := hs0
  have m0 := slen_max hn0
  by_cases hw : WS H
  case neg => exact ⟨H, FnOk.ws fun h => absurd h hw⟩
  let F : Fr := ⟨H, [], List.nodup_nil, by simp, hw, fun k => (([s0] : List AV)[k]?).getD .top⟩
  by_cases g0 : n0 ≤ maxN
  case neg =>
    obtain ⟨H', h, _⟩ := laws_FnExactReflectionsOf_len_fn n0 F rfl (st_nil rfl) ⟨hslc_ok rfl (slen_lens hn0), trivial⟩ (rf_lawL n0 m0 (by omega))
    exact ⟨H', h⟩
  obtain ⟨x0, l0, k0⟩ := h0 g0
  obtain ⟨H', h, _⟩ := laws_FnExactReflectionsOf_fn x0 F rfl (st_nil rfl) ⟨bslc_ok rfl k0, trivial⟩ (rf_law x0 (by rw [l0]; exact g0))
  exact ⟨H', h⟩

theorem fnExactReflectionsOf_lifted (os : Os) (started : os.Started) (H : Type) (enc : TypeId × Value → H) :
    ReturnsInHanded {} Try.checked os 3 .any (Rows.fnExactReflectionsOfSpec.pre6 enc Try.prog Try.f3 Rows.fnExactReflectionsOfRow.domain false) (Rows.fnExactReflectionsOfSpec.post enc Try.prog Try.f3 false true false false) := by
  refine returnsInHanded_of_change (C := Try.checked) Try.own started (by kernel_rfl) Try.func3
    (ChangeSpec.witness6 (enc := enc) (C := Try.checked) false ⟨#[], #[.slice none 0 0], []⟩ 8 (by kernel_rfl) (by kernel_rfl) (by kernel_rfl) (by kernel_rfl)) ?_
  intro W base args ds gs before hval0 hW hcnd _
  have hval : ∀ (j : Nat) t v, Try.f3.params[j]? = some t → args[j]? = some v → Value.okWide Try.prog W .any base t v := hval0
  have hW' := hW
  obtain ⟨p, q, hA0, hV, rfl, hfz, hnd⟩ := hW
  have hA : DataW.TrodAll enc Try.prog W 0 (fun _ => true) true Try.f3.params.toList args.toList ds p := hA0
  rw [Try.params3] at hA hval
  obtain ⟨v0, d0, rfl, rfl, t0⟩ := trodAll_one hA
  obtain ⟨rfl, rfl⟩ := trodVars_none hV
  have hv0 := hval 0 22 v0 rfl rfl
  clear hval hval0
  have c0 : Cell.okWide Try.prog W .any base 22 v0 := by have := hv0; simp only [Value.okWide, Try.underlying22] at this; exact this
  obtain ⟨fn0, fy0, ft0⟩ := of_trod t0
  have w0 : v0.cells = #[v0] := by obtain ⟨_, _, _, rfl⟩ := okWide_slice Try.underlying22 hv0; rfl
  rw [w0] at ft0
  obtain ⟨H0, μ0, s0, e0, r0, l0⟩ := leaf_f32s Try.underlying22 Try.underlying23 (by kernel_rfl) c0 ft0 (fun i B h => by simp at h) (HR.nil W)
  obtain ⟨H', hlaw⟩ := fnExactReflectionsOf_fn s0 H0 l0
  refine (law_calls hlaw e0.hr (VRs.cons r0 (VRs.nil _ _)) e0.no (Try.call3 _ W)).mono fun e W' ⟨he, hb⟩ => ⟨_, he, ?_⟩
  exact law_post Try.laidOut (by rw [Try.params3]; exact of_decide_eq_true (by kernel_rfl)) rfl rfl rfl Try.underlying4 hW' hb

theorem fnExactReflectionsOf_holds : Rows.FnExactReflectionsOfSaid :=
  OpenClaim.holds_of_wide 3 Try.f3 rfl rfl rfl rfl rfl rfl rfl ⟨rfl, rfl, rfl, rfl, rfl⟩ rfl rfl rfl rfl rfl (by kernel_rfl) Try.func3 (by kernel_rfl)
    (of_decide_eq_true (by kernel_rfl)) (by unfold Func.isWrapper; first | (rw [if_pos (by decide +kernel)]; kernel_rfl) | (rw [if_neg (by decide +kernel)]; exact ⟨rfl, rfl⟩))
    (fun os started H enc _ => fnExactReflectionsOf_lifted os started H enc)

end Go.Proofs.Ytflodniglbgkhaa
