/-
  The law FnExactRecoverSheets returns true, whatever the input, and the input reads as it did.
-/
import Derived.Test.YthdmkdkbfhoahaaS2
import Derived.Test.YthdmkdkbfhoahaaQRecoverSheets
set_option linter.unusedSimpArgs false
set_option linter.unusedVariables false
set_option maxRecDepth 100000
namespace Go.Proofs.Ythdmkdkbfhoahaa
open Go.ChangeShapes Go.WideShapes Go.ChangeAt Go.RowKit
open Go.Proofs.Ythdmkdkbfhoahaa.AM

theorem Try.own : ownKnob Try.prog.godebug = none := by kernel_rfl
theorem Try.laidOut : laidOutB Try.prog = true := by kernel_rfl

theorem fnExactRecoverSheets_fn (x0 : ByteArray) (H : Heap) (b0 : x0.size < 9223372036854775808) : ∃ H', FnOk Try.prog 7 [.str x0] H (.bool true) H' := by
  by_cases hw : WS H
  case neg => exact ⟨H, FnOk.ws fun h => absurd h hw⟩
  let F : Fr := ⟨H, [], by simp, hw, fun k => (([] : List AV)[k]?).getD .top, fun _ _ _ => 0⟩
  obtain ⟨F', H', _, h, _⟩ := laws_FnExactRecoverSheets_fn x0 F (st_nil rfl) ⟨trivial, trivial⟩ (recs_law x0 b0)
  exact ⟨H', h⟩

theorem fnExactRecoverSheets_lifted (os : Os) (started : os.Started) (H : Type) (enc : TypeId × Value → H) :
    ReturnsInHanded {} Try.checked os 7 .any (Rows.fnExactRecoverSheetsSpec.pre6 enc Try.prog Try.f7 Rows.fnExactRecoverSheetsRow.domain false) (Rows.fnExactRecoverSheetsSpec.post enc Try.prog Try.f7 false true false false) := by
  refine returnsInHanded_of_change (C := Try.checked) Try.own started (by kernel_rfl) Try.func7
    (ChangeSpec.witness6 (enc := enc) (C := Try.checked) false ⟨#[], #[.string ByteArray.empty], []⟩ 8 (by kernel_rfl) (by kernel_rfl) (by kernel_rfl) (by kernel_rfl)) ?_
  intro W base args ds gs before hval0 hW hcnd _
  have hval : ∀ (j : Nat) t v, Try.f7.params[j]? = some t → args[j]? = some v → Value.okWide Try.prog W .any base t v := hval0
  have hW' := hW
  obtain ⟨p, q, hA0, hV, rfl, hfz, hnd⟩ := hW
  have hA : DataW.TrodAll enc Try.prog W 0 (fun _ => true) true Try.f7.params.toList args.toList ds p := hA0
  rw [Try.params7] at hA hval
  obtain ⟨v0, d0, rfl, rfl, t0⟩ := trodAll_one hA
  obtain ⟨rfl, rfl⟩ := trodVars_none hV
  have hv0 := hval 0 9 v0 rfl rfl
  clear hval hval0
  have c0 : Cell.okWide Try.prog W .any base 9 v0 := by have := hv0; simp only [Value.okWide, Try.underlying9] at this; exact this
  obtain ⟨x0, rfl, b0⟩ := leaf_str Try.underlying9 c0
  obtain ⟨H', hlaw⟩ := fnExactRecoverSheets_fn x0 [] b0
  refine (law_calls hlaw (HR.nil W) (VRs.cons (.str x0) (VRs.nil _ _)) (fun i B h => by simp at h) (Try.call7 _ W)).mono fun e W' ⟨he, hb⟩ => ⟨_, he, ?_⟩
  exact law_post Try.laidOut (by rw [Try.params7]; exact of_decide_eq_true (by kernel_rfl)) rfl rfl rfl Try.underlying4 hW' hb

theorem fnExactRecoverSheets_holds : Rows.FnExactRecoverSheetsSaid :=
  OpenClaim.holds_of_wide 7 Try.f7 rfl rfl rfl rfl rfl rfl rfl ⟨rfl, rfl, rfl, rfl, rfl⟩ rfl rfl rfl rfl rfl (by kernel_rfl) Try.func7 (by kernel_rfl)
    (of_decide_eq_true (by kernel_rfl)) (by unfold Func.isWrapper; first | (rw [if_pos (by decide +kernel)]; kernel_rfl) | (rw [if_neg (by decide +kernel)]; exact ⟨rfl, rfl⟩))
    (fun os started H enc _ => fnExactRecoverSheets_lifted os started H enc)

end Go.Proofs.Ythdmkdkbfhoahaa
