/-
  The law FnExactNormalOf returns true, whatever the input, and the input reads as it did.
-/
import Derived.Test.YtimlecagkbbnpaaS2
import Derived.Test.YtimlecagkbbnpaaQNormalOf
set_option linter.unusedSimpArgs false
set_option linter.unusedVariables false
set_option maxRecDepth 100000
namespace Go.Proofs.Ytimlecagkbbnpaa
open Go.ChangeShapes Go.WideShapes Go.ChangeAt Go.RowKit
open Go.Proofs.Ytimlecagkbbnpaa.AM

theorem Try.own : ownKnob Try.prog.godebug = none := by kernel_rfl
theorem Try.laidOut : laidOutB Try.prog = true := by kernel_rfl

theorem fnExactNormalOf_fn (x0 : Int) (x1 : Int) (s2 : AV) (H : Heap) (b0 : -9223372036854775808 ≤ x0 ∧ x0 < 9223372036854775808) (b1 : -9223372036854775808 ≤ x1 ∧ x1 < 9223372036854775808) (hs2 : SlA cI H s2) : ∃ H', FnOk Try.prog 7 [.agg [.int .i64 x0, .int .i64 x1, s2]] H (.bool true) H' := by
  obtain ⟨n2, hn2, h2⟩ := hs2
  have m2 := slen_max hn2
  by_cases hw : WS H
  case neg => exact ⟨H, FnOk.ws fun h => absurd h hw⟩
  let F : Fr := ⟨H, [], by simp, hw, fun k => (([s2] : List AV)[k]?).getD .top, fun _ _ _ => 0⟩
  by_cases g2 : n2 ≤ maxN
  case neg =>
    obtain ⟨F', H', _, h, _⟩ := laws_FnExactNormalOf_len_fn x0 x1 n2 F (st_nil rfl) ⟨⟨trivial, trivial, hslc_ok rfl (slen_lens hn2), trivial⟩, trivial⟩ (norL x0 x1 n2 b0 b1 m2 (by omega))
    exact ⟨H', h⟩
  obtain ⟨x2, l2, k2, w2⟩ := h2 g2
  obtain ⟨F', H', _, h, _⟩ := laws_FnExactNormalOf_fn x0 x1 x2 F (st_nil rfl) ⟨⟨trivial, trivial, bslc_ok rfl k2, trivial⟩, trivial⟩ (nor x0 x1 x2 b0 b1 (by rw [l2]; exact g2))
  exact ⟨H', h⟩

theorem fnExactNormalOf_lifted (os : Os) (started : os.Started) (H : Type) (enc : TypeId × Value → H) :
    ReturnsInHanded {} Try.checked os 7 .any (Rows.fnExactNormalOfSpec.pre6 enc Try.prog Try.f7 Rows.fnExactNormalOfRow.domain false) (Rows.fnExactNormalOfSpec.post enc Try.prog Try.f7 false true false false) := by
  refine returnsInHanded_of_change (C := Try.checked) Try.own started (by kernel_rfl) Try.func7
    (ChangeSpec.witness6 (enc := enc) (C := Try.checked) false ⟨#[], #[.agg #[.int .i64 0, .int .i64 0, .slice none 0 0]], []⟩ 8 (by kernel_rfl) (by kernel_rfl) (by kernel_rfl) (by kernel_rfl)) ?_
  intro W base args ds gs before hval0 hW hcnd _
  have hval : ∀ (j : Nat) t v, Try.f7.params[j]? = some t → args[j]? = some v → Value.okWide Try.prog W .any base t v := hval0
  have hW' := hW
  obtain ⟨p, q, hA0, hV, rfl, hfz, hnd⟩ := hW
  have hA : DataW.TrodAll enc Try.prog W 0 (fun _ => true) true Try.f7.params.toList args.toList ds p := hA0
  rw [Try.params7] at hA hval
  obtain ⟨v0, d0, rfl, rfl, t0⟩ := trodAll_one hA
  obtain ⟨rfl, rfl⟩ := trodVars_none hV
  have hv0 := hval 0 24 v0 rfl rfl
  clear hval hval0
  obtain ⟨vs0, rfl, z0, cs0⟩ := cells_struct (ts := [2, 2, 22]) Try.underlying24 (by kernel_rfl) (by kernel_rfl) hv0
  obtain ⟨u0, u1, u2, rfl⟩ := list3 z0
  obtain ⟨fn0, fy0, ft0⟩ := of_trod t0
  have c0 := cs0 0 u0 2 rfl rfl
  have c1 := cs0 1 u1 2 rfl rfl
  have c2 := cs0 2 u2 22 rfl rfl
  obtain ⟨fn0_0, fy0_0, ft0_0⟩ := sub_field Try.underlying24 ft0 2 22 2 1 (by kernel_rfl) (by kernel_rfl) [u2] rfl
  obtain ⟨x0, rfl, b0⟩ := leaf_int Try.underlying2 c0
  obtain ⟨x1, rfl, b1⟩ := leaf_int Try.underlying2 c1
  obtain ⟨H2, μ2, s2, e2, r2, l2⟩ := leaf_i64s Try.underlying22 Try.underlying2 (by kernel_rfl) c2 ft0_0 (fun i B h => by simp at h) (HR.nil W)
  obtain ⟨H', hlaw⟩ := fnExactNormalOf_fn x0 x1 s2 H2 (i64_has b0) (i64_has b1) l2
  refine (law_calls hlaw e2.hr (VRs.cons (VR.ofs (VRs.cons (.int .i64 x0) (VRs.cons (.int .i64 x1) (VRs.cons r2 (VRs.nil _ _))))) (VRs.nil _ _)) e2.no (Try.call7 _ W)).mono fun e W' ⟨he, hb⟩ => ⟨_, he, ?_⟩
  exact law_post Try.laidOut (by rw [Try.params7]; exact of_decide_eq_true (by kernel_rfl)) rfl rfl rfl Try.underlying4 hW' hb

theorem fnExactNormalOf_holds : Rows.FnExactNormalOfSaid :=
  OpenClaim.holds_of_wide 7 Try.f7 rfl rfl rfl rfl rfl rfl rfl ⟨rfl, rfl, rfl, rfl, rfl⟩ rfl rfl rfl rfl rfl (by kernel_rfl) Try.func7 (by kernel_rfl)
    (of_decide_eq_true (by kernel_rfl)) (by unfold Func.isWrapper; first | (rw [if_pos (by decide +kernel)]; kernel_rfl) | (rw [if_neg (by decide +kernel)]; exact ⟨rfl, rfl⟩))
    (fun os started H enc _ => fnExactNormalOf_lifted os started H enc)

end Go.Proofs.Ytimlecagkbbnpaa
