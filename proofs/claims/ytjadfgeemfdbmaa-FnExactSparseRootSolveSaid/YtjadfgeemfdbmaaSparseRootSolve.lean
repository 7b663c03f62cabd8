/-
  The law FnExactSparseRootSolve returns true, whatever the input, and the input reads as it did.
-/
import Derived.Test.YtjadfgeemfdbmaaS2
import Derived.Test.YtjadfgeemfdbmaaQSparseRootSolve
set_option linter.unusedSimpArgs false
set_option linter.unusedVariables false
set_option maxRecDepth 100000
namespace Go.Proofs.Ytjadfgeemfdbmaa
open Go.ChangeShapes Go.WideShapes Go.ChangeAt Go.RowKit
open Go.Proofs.Ytjadfgeemfdbmaa.AM

theorem Try.own : ownKnob Try.prog.godebug = none := by kernel_rfl
theorem Try.laidOut : laidOutB Try.prog = true := by kernel_rfl

theorem fnExactSparseRootSolve_fn (x0 : Int) (s1 : AV) (s2 : AV) (s3 : AV) (s4 : AV) (H : Heap) (b0 : -9223372036854775808 ≤ x0 ∧ x0 < 9223372036854775808) (hs1 : SlA cI H s1) (hs2 : SlA cI H s2) (hs3 : SlA cF H s3) (hs4 : SlA cF H s4) : ∃ H', FnOk Try.prog 5 [.agg [.int .i64 x0, s1, s2, s3], s4] H (.bool true) H' := by
  obtain ⟨n1, hn1, h1⟩ := hs1
  have m1 := slen_max hn1
  obtain ⟨n2, hn2, h2⟩ := hs2
  have m2 := slen_max hn2
  obtain ⟨n3, hn3, h3⟩ := hs3
  have m3 := slen_max hn3
  obtain ⟨n4, hn4, h4⟩ := hs4
  have m4 := slen_max hn4
  by_cases hw : WS H
  case neg => exact ⟨H, FnOk.ws fun h => absurd h hw⟩
  let F : Fr := ⟨H, [], List.nodup_nil, by simp, hw, fun k => (([s1, s2, s3, s4] : List AV)[k]?).getD .top⟩
  by_cases g1 : n1 ≤ maxN
  case neg =>
    obtain ⟨H', h, _⟩ := laws_FnExactSparseRootSolve_len_fn x0 n1 n2 n3 n4 F rfl (st_nil rfl) ⟨⟨trivial, hslc_ok rfl (slen_lens hn1), hslc_ok rfl (slen_lens hn2), hslc_ok rfl (slen_lens hn3), trivial⟩, hslc_ok rfl (slen_lens hn4), trivial⟩ (rs_lawL x0 n1 n2 n3 n4 b0 m1 m2 m3 m4 (by omega))
    exact ⟨H', h⟩
  by_cases g2 : n2 ≤ maxN
  case neg =>
    obtain ⟨H', h, _⟩ := laws_FnExactSparseRootSolve_len_fn x0 n1 n2 n3 n4 F rfl (st_nil rfl) ⟨⟨trivial, hslc_ok rfl (slen_lens hn1), hslc_ok rfl (slen_lens hn2), hslc_ok rfl (slen_lens hn3), trivial⟩, hslc_ok rfl (slen_lens hn4), trivial⟩ (rs_lawL x0 n1 n2 n3 n4 b0 m1 m2 m3 m4 (by omega))
    exact ⟨H', h⟩
  by_cases g3 : n3 ≤ maxN
  case neg =>
    obtain ⟨H', h, _⟩ := laws_FnExactSparseRootSolve_len_fn x0 n1 n2 n3 n4 F rfl (st_nil rfl) ⟨⟨trivial, hslc_ok rfl (slen_lens hn1), hslc_ok rfl (slen_lens hn2), hslc_ok rfl (slen_lens hn3), trivial⟩, hslc_ok rfl (slen_lens hn4), trivial⟩ (rs_lawL x0 n1 n2 n3 n4 b0 m1 m2 m3 m4 (by omega))
    exact ⟨H', h⟩
  by_cases g4 : n4 ≤ maxN
  case neg =>
    obtain ⟨H', h, _⟩ := laws_FnExactSparseRootSolve_len_fn x0 n1 n2 n3 n4 F rfl (st_nil rfl) ⟨⟨trivial, hslc_ok rfl (slen_lens hn1), hslc_ok rfl (slen_lens hn2), hslc_ok rfl (slen_lens hn3), trivial⟩, hslc_ok rfl (slen_lens hn4), trivial⟩ (rs_lawL x0 n1 n2 n3 n4 b0 m1 m2 m3 m4 (by omega))
    exact ⟨H', h⟩
  obtain ⟨x1, l1, k1⟩ := h1 g1
  obtain ⟨x2, l2, k2⟩ := h2 g2
  obtain ⟨x3, l3, k3⟩ := h3 g3
  obtain ⟨x4, l4, k4⟩ := h4 g4
  obtain ⟨H', h, _⟩ := laws_FnExactSparseRootSolve_fn x0 x1 x2 x3 x4 F rfl (st_nil rfl) ⟨⟨trivial, bslc_ok rfl k1, bslc_ok rfl k2, bslc_ok rfl k3, trivial⟩, bslc_ok rfl k4, trivial⟩ (rs_law x0 x1 x2 x3 x4 b0 (by rw [l1]; exact g1) (by rw [l2]; exact g2) (by rw [l3]; exact g3) (by rw [l4]; exact g4))
  exact ⟨H', h⟩

theorem fnExactSparseRootSolve_lifted (os : Os) (started : os.Started) (H : Type) (enc : TypeId × Value → H) :
    ReturnsInHanded {} Try.checked os 5 .any (Rows.fnExactSparseRootSolveSpec.pre6 enc Try.prog Try.f5 Rows.fnExactSparseRootSolveRow.domain false) (Rows.fnExactSparseRootSolveSpec.post enc Try.prog Try.f5 false true false false) := by
  refine returnsInHanded_of_change (C := Try.checked) Try.own started (by kernel_rfl) Try.func5
    (ChangeSpec.witness6 (enc := enc) (C := Try.checked) false ⟨#[], #[.agg #[.int .i64 0, .slice none 0 0, .slice none 0 0, .slice none 0 0], .slice none 0 0], []⟩ 8 (by kernel_rfl) (by kernel_rfl) (by kernel_rfl) (by kernel_rfl)) ?_
  intro W base args ds gs before hval0 hW hcnd _
  have hval : ∀ (j : Nat) t v, Try.f5.params[j]? = some t → args[j]? = some v → Value.okWide Try.prog W .any base t v := hval0
  have hW' := hW
  obtain ⟨p, q, hA0, hV, rfl, hfz, hnd⟩ := hW
  have hA : DataW.TrodAll enc Try.prog W 0 (fun _ => true) true Try.f5.params.toList args.toList ds p := hA0
  rw [Try.params5] at hA hval
  obtain ⟨v0, v1, d0, d1, p0, p1, rfl, rfl, rfl, t0, t1⟩ := trodAll_two hA
  obtain ⟨rfl, rfl⟩ := trodVars_none hV
  have hv0 := hval 0 25 v0 rfl rfl
  have hv1 := hval 1 23 v1 rfl rfl
  clear hval hval0
  obtain ⟨vs0, rfl, z0, cs0⟩ := cells_struct (ts := [2, 22, 22, 23]) Try.underlying25 (by kernel_rfl) (by kernel_rfl) hv0
  obtain ⟨u0, u1, u2, u3, rfl⟩ := list4 z0
  obtain ⟨fn0, fy0, ft0⟩ := of_trod t0
  have c0 := cs0 0 u0 2 rfl rfl
  have c1 := cs0 1 u1 22 rfl rfl
  have c2 := cs0 2 u2 22 rfl rfl
  have c3 := cs0 3 u3 23 rfl rfl
  obtain ⟨fn0_0, fy0_0, ft0_0⟩ := sub_field Try.underlying25 ft0 1 22 1 1 (by kernel_rfl) (by kernel_rfl) [u1] rfl
  obtain ⟨fn0_1, fy0_1, ft0_1⟩ := sub_field Try.underlying25 ft0 2 22 2 1 (by kernel_rfl) (by kernel_rfl) [u2] rfl
  obtain ⟨fn0_2, fy0_2, ft0_2⟩ := sub_field Try.underlying25 ft0 3 23 3 1 (by kernel_rfl) (by kernel_rfl) [u3] rfl
  have c4 : Cell.okWide Try.prog W .any base 23 v1 := by have := hv1; simp only [Value.okWide, Try.underlying23] at this; exact this
  obtain ⟨fn1, fy1, ft1⟩ := of_trod t1
  have w1 : v1.cells = #[v1] := by obtain ⟨_, _, _, rfl⟩ := okWide_slice Try.underlying23 hv1; rfl
  rw [w1] at ft1
  obtain ⟨x0, rfl, b0⟩ := leaf_int Try.underlying2 c0
  obtain ⟨H1, μ1, s1, e1, r1, l1⟩ := leaf_i64s Try.underlying22 Try.underlying2 (by kernel_rfl) c1 ft0_0 (fun i B h => by simp at h) (HR.nil W)
  obtain ⟨H2, μ2, s2, e2, r2, l2⟩ := leaf_i64s Try.underlying22 Try.underlying2 (by kernel_rfl) c2 ft0_1 e1.no e1.hr
  obtain ⟨H3, μ3, s3, e3, r3, l3⟩ := leaf_f32s Try.underlying23 Try.underlying49 (by kernel_rfl) c3 ft0_2 e2.no e2.hr
  obtain ⟨H4, μ4, s4, e4, r4, l4⟩ := leaf_f32s Try.underlying23 Try.underlying49 (by kernel_rfl) c4 ft1 e3.no e3.hr
  obtain ⟨H', hlaw⟩ := fnExactSparseRootSolve_fn x0 s1 s2 s3 s4 H4 (i64_has b0) (e4.sl (e3.sl (e2.sl l1))) (e4.sl (e3.sl l2)) (e4.sl l3) l4
  refine (law_calls hlaw e4.hr (VRs.cons (VR.ofs (VRs.cons (.int .i64 x0) (VRs.cons (e4.vr _ _ (e3.vr _ _ (e2.vr _ _ r1))) (VRs.cons (e4.vr _ _ (e3.vr _ _ r2)) (VRs.cons (e4.vr _ _ r3) (VRs.nil _ _)))))) (VRs.cons r4 (VRs.nil _ _))) e4.no (Try.call5 _ W)).mono fun e W' ⟨he, hb⟩ => ⟨_, he, ?_⟩
  exact law_post Try.laidOut (by rw [Try.params5]; exact of_decide_eq_true (by kernel_rfl)) rfl rfl rfl Try.underlying4 hW' hb

theorem fnExactSparseRootSolve_holds : Rows.FnExactSparseRootSolveSaid :=
  OpenClaim.holds_of_wide 5 Try.f5 rfl rfl rfl rfl rfl rfl rfl ⟨rfl, rfl, rfl, rfl, rfl⟩ rfl rfl rfl rfl rfl (by kernel_rfl) Try.func5 (by kernel_rfl)
    (of_decide_eq_true (by kernel_rfl)) (by unfold Func.isWrapper; first | (rw [if_pos (by decide +kernel)]; kernel_rfl) | (rw [if_neg (by decide +kernel)]; exact ⟨rfl, rfl⟩))
    (fun os started H enc _ => fnExactSparseRootSolve_lifted os started H enc)

end Go.Proofs.Ytjadfgeemfdbmaa
