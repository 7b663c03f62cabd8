/-
  The law FnExactShortRows returns true, whatever the input, and the input reads as it did.
-/
import Derived.Test.YtmgpbchacndndaaS2
import Derived.Test.YtmgpbchacndndaaMSC
set_option linter.unusedSimpArgs false
set_option linter.unusedVariables false
set_option maxRecDepth 100000
namespace Go.Proofs.Ytmgpbchacndndaa
open Go.ChangeShapes Go.WideShapes Go.ChangeAt Go.RowKit
open Go.Proofs.Ytmgpbchacndndaa.AM

theorem Try.own : ownKnob Try.prog.godebug = none := by kernel_rfl
theorem Try.laidOut : laidOutB Try.prog = true := by kernel_rfl

theorem fnExactShortRows_fn (x0 : Int) (x1 : Int) (s2 : AV) (x3 : Int) (H : Heap) (b0 : -9223372036854775808 ≤ x0 ∧ x0 < 9223372036854775808) (b1 : -9223372036854775808 ≤ x1 ∧ x1 < 9223372036854775808) (hs2 : SlA cI H s2) (b3 : -9223372036854775808 ≤ x3 ∧ x3 < 9223372036854775808) : ∃ H', FnOk Try.prog 4 [.agg [.int .i64 x0, .int .i64 x1, s2], .int .i64 x3] H (.bool true) H' := by
  obtain ⟨n2, hn2, h2⟩ := hs2
  have m2 := slen_max hn2
  by_cases hw : WS H
  case neg => exact ⟨H, FnOk.ws fun h => absurd h hw⟩
  let F : Fr := ⟨H, [], by simp, hw, fun k => (([s2] : List AV)[k]?).getD .top, fun _ _ _ => 0⟩
  by_cases g2 : n2 ≤ maxN
  case neg =>
    obtain ⟨F', H', _, h, _⟩ := laws_FnExactShortRows_len_fn x0 x1 n2 x3 F (st_nil rfl) ⟨⟨trivial, trivial, hslc_ok rfl (slen_lens hn2), trivial⟩, trivial, trivial⟩ (sh_lawL x0 x1 n2 x3 b0 b1 m2 b3 (by omega))
    exact ⟨H', h⟩
  obtain ⟨x2, l2, k2, w2⟩ := h2 g2
  obtain ⟨F', H', _, h, _⟩ := laws_FnExactShortRows_fn x0 x1 x2 x3 F (st_nil rfl) ⟨⟨trivial, trivial, bslc_ok rfl k2, trivial⟩, trivial, trivial⟩ (sh_law x0 x1 x2 x3 b0 b1 (by rw [l2]; exact g2) b3)
  exact ⟨H', h⟩

theorem fnExactShortRows_lifted (os : Os) (started : os.Started) (H : Type) (enc : TypeId × Value → H) :
    ReturnsInHanded {} Try.checked os 4 .any (Rows.fnExactShortRowsSpec.pre6 enc Try.prog Try.f4 Rows.fnExactShortRowsRow.domain false) (Rows.fnExactShortRowsSpec.post enc Try.prog Try.f4 false true false false) := by
  refine returnsInHanded_of_change (C := Try.checked) Try.own started (by kernel_rfl) Try.func4
    (ChangeSpec.witness6 (enc := enc) (C := Try.checked) false ⟨#[], #[.agg #[.int .i64 0, .int .i64 0, .slice none 0 0], .int .i64 0], []⟩ 8 (by kernel_rfl) (by kernel_rfl) (by kernel_rfl) (by kernel_rfl)) ?_
  intro W base args ds gs before hval0 hW hcnd _
  have hval : ∀ (j : Nat) t v, Try.f4.params[j]? = some t → args[j]? = some v → Value.okWide Try.prog W .any base t v := hval0
  have hW' := hW
  obtain ⟨p, q, hA0, hV, rfl, hfz, hnd⟩ := hW
  have hA : DataW.TrodAll enc Try.prog W 0 (fun _ => true) true Try.f4.params.toList args.toList ds p := hA0
  rw [Try.params4] at hA hval
  obtain ⟨v0, v1, d0, d1, p0, p1, rfl, rfl, rfl, t0, t1⟩ := trodAll_two hA
  obtain ⟨rfl, rfl⟩ := trodVars_none hV
  have hv0 := hval 0 36 v0 rfl rfl
  have hv1 := hval 1 2 v1 rfl rfl
  clear hval hval0
  obtain ⟨vs0, rfl, z0, cs0⟩ := cells_struct (ts := [2, 2, 25]) Try.underlying36 (by kernel_rfl) (by kernel_rfl) hv0
  obtain ⟨u0, u1, u2, rfl⟩ := list3 z0
  obtain ⟨fn0, fy0, ft0⟩ := of_trod t0
  have c0 := cs0 0 u0 2 rfl rfl
  have c1 := cs0 1 u1 2 rfl rfl
  have c2 := cs0 2 u2 25 rfl rfl
  obtain ⟨fn0_0, fy0_0, ft0_0⟩ := sub_field Try.underlying36 ft0 2 25 2 1 (by kernel_rfl) (by kernel_rfl) [u2] rfl
  have c3 : Cell.okWide Try.prog W .any base 2 v1 := by have := hv1; simp only [Value.okWide, Try.underlying2] at this; exact this
  obtain ⟨x0, rfl, b0⟩ := leaf_int Try.underlying2 c0
  obtain ⟨x1, rfl, b1⟩ := leaf_int Try.underlying2 c1
  obtain ⟨H2, μ2, s2, e2, r2, l2⟩ := leaf_i64s Try.underlying25 Try.underlying2 (by kernel_rfl) c2 ft0_0 (fun i B h => by simp at h) (HR.nil W)
  obtain ⟨x3, rfl, b3⟩ := leaf_int Try.underlying2 c3
  obtain ⟨H', hlaw⟩ := fnExactShortRows_fn x0 x1 s2 x3 H2 (i64_has b0) (i64_has b1) l2 (i64_has b3)
  refine (law_calls hlaw e2.hr (VRs.cons (VR.ofs (VRs.cons (.int .i64 x0) (VRs.cons (.int .i64 x1) (VRs.cons r2 (VRs.nil _ _))))) (VRs.cons (.int .i64 x3) (VRs.nil _ _))) e2.no (Try.call4 _ W)).mono fun e W' ⟨he, hb⟩ => ⟨_, he, ?_⟩
  exact law_post Try.laidOut (by rw [Try.params4]; exact of_decide_eq_true (by kernel_rfl)) rfl rfl rfl Try.underlying4 hW' hb

theorem fnExactShortRows_holds : Rows.FnExactShortRowsSaid :=
  OpenClaim.holds_of_wide 4 Try.f4 rfl rfl rfl rfl rfl rfl rfl ⟨rfl, rfl, rfl, rfl, rfl⟩ rfl rfl rfl rfl rfl (by kernel_rfl) Try.func4 (by kernel_rfl)
    (of_decide_eq_true (by kernel_rfl)) (by unfold Func.isWrapper; first | (rw [if_pos (by decide +kernel)]; kernel_rfl) | (rw [if_neg (by decide +kernel)]; exact ⟨rfl, rfl⟩))
    (fun os started H enc _ => fnExactShortRows_lifted os started H enc)

end Go.Proofs.Ytmgpbchacndndaa
