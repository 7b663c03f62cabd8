/-
  The law FnExactFactorGrowth returns true, whatever the input, and the input reads as it did.
-/
import Derived.Test.YtjadfgeemfdbmaaS2
import Derived.Test.YtjadfgeemfdbmaaQFactorGrowth
set_option linter.unusedSimpArgs false
set_option linter.unusedVariables false
set_option maxRecDepth 100000
namespace Go.Proofs.Ytjadfgeemfdbmaa
open Go.ChangeShapes Go.WideShapes Go.ChangeAt Go.RowKit
open Go.Proofs.Ytjadfgeemfdbmaa.AM

theorem Try.own : ownKnob Try.prog.godebug = none := by kernel_rfl
theorem Try.laidOut : laidOutB Try.prog = true := by kernel_rfl

theorem fnExactFactorGrowth_fn (x0 : Int) (x1 : Int) (s2 : AV) (x3 : Int) (x4 : Int) (s5 : AV) (s6 : AV) (H : Heap) (b0 : -9223372036854775808 ≤ x0 ∧ x0 < 9223372036854775808) (b1 : -9223372036854775808 ≤ x1 ∧ x1 < 9223372036854775808) (hs2 : SlA cF H s2) (b3 : -9223372036854775808 ≤ x3 ∧ x3 < 9223372036854775808) (b4 : -9223372036854775808 ≤ x4 ∧ x4 < 9223372036854775808) (hs5 : SlA cF H s5) (hs6 : SlA cI H s6) : ∃ H', FnOk Try.prog 12 [.agg [.int .i64 x0, .int .i64 x1, s2], .agg [.int .i64 x3, .int .i64 x4, s5, s6]] H (.bool true) H' := by
  obtain ⟨n2, hn2, h2⟩ := hs2
  have m2 := slen_max hn2
  obtain ⟨n5, hn5, h5⟩ := hs5
  have m5 := slen_max hn5
  obtain ⟨n6, hn6, h6⟩ := hs6
  have m6 := slen_max hn6
  by_cases hw : WS H
  case neg => exact ⟨H, FnOk.ws fun h => absurd h hw⟩
  let F : Fr := ⟨H, [], List.nodup_nil, by simp, hw, fun k => (([s2, s5, s6] : List AV)[k]?).getD .top⟩
  by_cases g2 : n2 ≤ maxN
  case neg =>
    obtain ⟨H', h, _⟩ := laws_FnExactFactorGrowth_len_fn x0 x1 n2 x3 x4 n5 n6 F rfl (st_nil rfl) ⟨⟨trivial, trivial, hslc_ok rfl (slen_lens hn2), trivial⟩, ⟨trivial, trivial, hslc_ok rfl (slen_lens hn5), hslc_ok rfl (slen_lens hn6), trivial⟩, trivial⟩ (fg_lawL x0 x1 n2 x3 x4 n5 n6 b0 b1 m2 b3 b4 m5 m6 (by omega))
    exact ⟨H', h⟩
  by_cases g5 : n5 ≤ maxN
  case neg =>
    obtain ⟨H', h, _⟩ := laws_FnExactFactorGrowth_len_fn x0 x1 n2 x3 x4 n5 n6 F rfl (st_nil rfl) ⟨⟨trivial, trivial, hslc_ok rfl (slen_lens hn2), trivial⟩, ⟨trivial, trivial, hslc_ok rfl (slen_lens hn5), hslc_ok rfl (slen_lens hn6), trivial⟩, trivial⟩ (fg_lawL x0 x1 n2 x3 x4 n5 n6 b0 b1 m2 b3 b4 m5 m6 (by omega))
    exact ⟨H', h⟩
  by_cases g6 : n6 ≤ maxN
  case neg =>
    obtain ⟨H', h, _⟩ := laws_FnExactFactorGrowth_len_fn x0 x1 n2 x3 x4 n5 n6 F rfl (st_nil rfl) ⟨⟨trivial, trivial, hslc_ok rfl (slen_lens hn2), trivial⟩, ⟨trivial, trivial, hslc_ok rfl (slen_lens hn5), hslc_ok rfl (slen_lens hn6), trivial⟩, trivial⟩ (fg_lawL x0 x1 n2 x3 x4 n5 n6 b0 b1 m2 b3 b4 m5 m6 (by omega))
    exact ⟨H', h⟩
  obtain ⟨x2, l2, k2⟩ := h2 g2
  obtain ⟨x5, l5, k5⟩ := h5 g5
  obtain ⟨x6, l6, k6⟩ := h6 g6
  obtain ⟨H', h, _⟩ := laws_FnExactFactorGrowth_fn x0 x1 x2 x3 x4 x5 x6 F rfl (st_nil rfl) ⟨⟨trivial, trivial, bslc_ok rfl k2, trivial⟩, ⟨trivial, trivial, bslc_ok rfl k5, bslc_ok rfl k6, trivial⟩, trivial⟩ (fg_law x0 x1 x2 x3 x4 x5 x6 b0 b1 (by rw [l2]; exact g2) b3 b4 (by rw [l5]; exact g5) (by rw [l6]; exact g6))
  exact ⟨H', h⟩

theorem fnExactFactorGrowth_lifted (os : Os) (started : os.Started) (H : Type) (enc : TypeId × Value → H) :
    ReturnsInHanded {} Try.checked os 12 .any (Rows.fnExactFactorGrowthSpec.pre6 enc Try.prog Try.f12 Rows.fnExactFactorGrowthRow.domain false) (Rows.fnExactFactorGrowthSpec.post enc Try.prog Try.f12 false true false false) := by
  refine returnsInHanded_of_change (C := Try.checked) Try.own started (by kernel_rfl) Try.func12
    (ChangeSpec.witness6 (enc := enc) (C := Try.checked) false ⟨#[], #[.agg #[.int .i64 0, .int .i64 0, .slice none 0 0], .agg #[.int .i64 0, .int .i64 0, .slice none 0 0, .slice none 0 0]], []⟩ 8 (by kernel_rfl) (by kernel_rfl) (by kernel_rfl) (by kernel_rfl)) ?_
  intro W base args ds gs before hval0 hW hcnd _
  have hval : ∀ (j : Nat) t v, Try.f12.params[j]? = some t → args[j]? = some v → Value.okWide Try.prog W .any base t v := hval0
  have hW' := hW
  obtain ⟨p, q, hA0, hV, rfl, hfz, hnd⟩ := hW
  have hA : DataW.TrodAll enc Try.prog W 0 (fun _ => true) true Try.f12.params.toList args.toList ds p := hA0
  rw [Try.params12] at hA hval
  obtain ⟨v0, v1, d0, d1, p0, p1, rfl, rfl, rfl, t0, t1⟩ := trodAll_two hA
  obtain ⟨rfl, rfl⟩ := trodVars_none hV
  have hv0 := hval 0 40 v0 rfl rfl
  have hv1 := hval 1 63 v1 rfl rfl
  clear hval hval0
  obtain ⟨vs0, rfl, z0, cs0⟩ := cells_struct (ts := [2, 2, 23]) Try.underlying40 (by kernel_rfl) (by kernel_rfl) hv0
  obtain ⟨u0, u1, u2, rfl⟩ := list3 z0
  obtain ⟨fn0, fy0, ft0⟩ := of_trod t0
  have c0 := cs0 0 u0 2 rfl rfl
  have c1 := cs0 1 u1 2 rfl rfl
  have c2 := cs0 2 u2 23 rfl rfl
  obtain ⟨fn0_0, fy0_0, ft0_0⟩ := sub_field Try.underlying40 ft0 2 23 2 1 (by kernel_rfl) (by kernel_rfl) [u2] rfl
  obtain ⟨vs1, rfl, z1, cs1⟩ := cells_struct (ts := [2, 2, 23, 22]) Try.underlying63 (by kernel_rfl) (by kernel_rfl) hv1
  obtain ⟨u3, u4, u5, u6, rfl⟩ := list4 z1
  obtain ⟨fn1, fy1, ft1⟩ := of_trod t1
  have c3 := cs1 0 u3 2 rfl rfl
  have c4 := cs1 1 u4 2 rfl rfl
  have c5 := cs1 2 u5 23 rfl rfl
  have c6 := cs1 3 u6 22 rfl rfl
  obtain ⟨fn1_0, fy1_0, ft1_0⟩ := sub_field Try.underlying63 ft1 0 40 0 3 (by kernel_rfl) (by kernel_rfl) [u3, u4, u5] rfl
  obtain ⟨fn1_1, fy1_1, ft1_1⟩ := sub_field Try.underlying40 ft1_0 2 23 2 1 (by kernel_rfl) (by kernel_rfl) [u5] rfl
  obtain ⟨fn1_2, fy1_2, ft1_2⟩ := sub_field Try.underlying63 ft1 1 22 3 1 (by kernel_rfl) (by kernel_rfl) [u6] rfl
  obtain ⟨x0, rfl, b0⟩ := leaf_int Try.underlying2 c0
  obtain ⟨x1, rfl, b1⟩ := leaf_int Try.underlying2 c1
  obtain ⟨H2, μ2, s2, e2, r2, l2⟩ := leaf_f32s Try.underlying23 Try.underlying49 (by kernel_rfl) c2 ft0_0 (fun i B h => by simp at h) (HR.nil W)
  obtain ⟨x3, rfl, b3⟩ := leaf_int Try.underlying2 c3
  obtain ⟨x4, rfl, b4⟩ := leaf_int Try.underlying2 c4
  obtain ⟨H5, μ5, s5, e5, r5, l5⟩ := leaf_f32s Try.underlying23 Try.underlying49 (by kernel_rfl) c5 ft1_1 e2.no e2.hr
  obtain ⟨H6, μ6, s6, e6, r6, l6⟩ := leaf_i64s Try.underlying22 Try.underlying2 (by kernel_rfl) c6 ft1_2 e5.no e5.hr
  obtain ⟨H', hlaw⟩ := fnExactFactorGrowth_fn x0 x1 s2 x3 x4 s5 s6 H6 (i64_has b0) (i64_has b1) (e6.sl (e5.sl l2)) (i64_has b3) (i64_has b4) (e6.sl l5) l6
  refine (law_calls hlaw e6.hr (VRs.cons (VR.ofs (VRs.cons (.int .i64 x0) (VRs.cons (.int .i64 x1) (VRs.cons (e6.vr _ _ (e5.vr _ _ r2)) (VRs.nil _ _))))) (VRs.cons (VR.ofs (VRs.cons (.int .i64 x3) (VRs.cons (.int .i64 x4) (VRs.cons (e6.vr _ _ r5) (VRs.cons r6 (VRs.nil _ _)))))) (VRs.nil _ _))) e6.no (Try.call12 _ W)).mono fun e W' ⟨he, hb⟩ => ⟨_, he, ?_⟩
  exact law_post Try.laidOut (by rw [Try.params12]; exact of_decide_eq_true (by kernel_rfl)) rfl rfl rfl Try.underlying4 hW' hb

theorem fnExactFactorGrowth_holds : Rows.FnExactFactorGrowthSaid :=
  OpenClaim.holds_of_wide 12 Try.f12 rfl rfl rfl rfl rfl rfl rfl ⟨rfl, rfl, rfl, rfl, rfl⟩ rfl rfl rfl rfl rfl (by kernel_rfl) Try.func12 (by kernel_rfl)
    (of_decide_eq_true (by kernel_rfl)) (by unfold Func.isWrapper; first | (rw [if_pos (by decide +kernel)]; kernel_rfl) | (rw [if_neg (by decide +kernel)]; exact ⟨rfl, rfl⟩))
    (fun os started H enc _ => fnExactFactorGrowth_lifted os started H enc)

end Go.Proofs.Ytjadfgeemfdbmaa
