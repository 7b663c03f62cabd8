/-
  The law FnExactSolveOver returns true, whatever the input, and the input reads as it did.
-/
import Derived.Test.YtimlecagkbbnpaaS2
import Derived.Test.YtimlecagkbbnpaaQSolveOver
set_option linter.unusedSimpArgs false
set_option linter.unusedVariables false
set_option maxRecDepth 100000
namespace Go.Proofs.Ytimlecagkbbnpaa
open Go.ChangeShapes Go.WideShapes Go.ChangeAt Go.RowKit
open Go.Proofs.Ytimlecagkbbnpaa.AM

theorem Try.own : ownKnob Try.prog.godebug = none := by kernel_rfl
theorem Try.laidOut : laidOutB Try.prog = true := by kernel_rfl

theorem fnExactSolveOver_fn (x0 : Int) (x1 : Int) (s2 : AV) (s3 : AV) (x4 : Int) (H : Heap) (b0 : -9223372036854775808 ≤ x0 ∧ x0 < 9223372036854775808) (b1 : -9223372036854775808 ≤ x1 ∧ x1 < 9223372036854775808) (hs2 : SlA cI H s2) (hs3 : SlA cI H s3) (b4 : -9223372036854775808 ≤ x4 ∧ x4 < 9223372036854775808) : ∃ H', FnOk Try.prog 5 [.agg [.int .i64 x0, .int .i64 x1, s2], s3, .int .i64 x4] H (.bool true) H' := by
  obtain ⟨n2, hn2, h2⟩ := hs2
  have m2 := slen_max hn2
  obtain ⟨n3, hn3, h3⟩ := hs3
  have m3 := slen_max hn3
  by_cases hw : WS H
  case neg => exact ⟨H, FnOk.ws fun h => absurd h hw⟩
  let F : Fr := ⟨H, [], by simp, hw, fun k => (([s2, s3] : List AV)[k]?).getD .top, fun _ _ _ => 0⟩
  by_cases g2 : n2 ≤ maxN
  case neg =>
    obtain ⟨F', H', _, h, _⟩ := laws_FnExactSolveOver_len_fn x0 x1 n2 n3 x4 F (st_nil rfl) ⟨⟨trivial, trivial, hslc_ok rfl (slen_lens hn2), trivial⟩, hslc_ok rfl (slen_lens hn3), trivial, trivial⟩ (slvOL x0 x1 n2 n3 x4 b0 b1 m2 m3 b4 (by omega))
    exact ⟨H', h⟩
  by_cases g3 : n3 ≤ maxN
  case neg =>
    obtain ⟨F', H', _, h, _⟩ := laws_FnExactSolveOver_len_fn x0 x1 n2 n3 x4 F (st_nil rfl) ⟨⟨trivial, trivial, hslc_ok rfl (slen_lens hn2), trivial⟩, hslc_ok rfl (slen_lens hn3), trivial, trivial⟩ (slvOL x0 x1 n2 n3 x4 b0 b1 m2 m3 b4 (by omega))
    exact ⟨H', h⟩
  obtain ⟨x2, l2, k2, w2⟩ := h2 g2
  obtain ⟨x3, l3, k3, w3⟩ := h3 g3
  obtain ⟨F', H', _, h, _⟩ := laws_FnExactSolveOver_fn x0 x1 x2 x3 x4 F (st_nil rfl) ⟨⟨trivial, trivial, bslc_ok rfl k2, trivial⟩, bslc_ok rfl k3, trivial, trivial⟩ (slvO x0 x1 x2 x3 x4 b0 b1 (by rw [l2]; exact g2) (by rw [l3]; exact g3) b4)
  exact ⟨H', h⟩

theorem fnExactSolveOver_lifted (os : Os) (started : os.Started) (H : Type) (enc : TypeId × Value → H) :
    ReturnsInHanded {} Try.checked os 5 .any (Rows.fnExactSolveOverSpec.pre6 enc Try.prog Try.f5 Rows.fnExactSolveOverRow.domain false) (Rows.fnExactSolveOverSpec.post enc Try.prog Try.f5 false true false false) := by
  refine returnsInHanded_of_change (C := Try.checked) Try.own started (by kernel_rfl) Try.func5
    (ChangeSpec.witness6 (enc := enc) (C := Try.checked) false ⟨#[], #[.agg #[.int .i64 0, .int .i64 0, .slice none 0 0], .slice none 0 0, .int .i64 0], []⟩ 8 (by kernel_rfl) (by kernel_rfl) (by kernel_rfl) (by kernel_rfl)) ?_
  intro W base args ds gs before hval0 hW hcnd _
  have hval : ∀ (j : Nat) t v, Try.f5.params[j]? = some t → args[j]? = some v → Value.okWide Try.prog W .any base t v := hval0
  have hW' := hW
  obtain ⟨p, q, hA0, hV, rfl, hfz, hnd⟩ := hW
  have hA : DataW.TrodAll enc Try.prog W 0 (fun _ => true) true Try.f5.params.toList args.toList ds p := hA0
  rw [Try.params5] at hA hval
  obtain ⟨v0, v1, v2, d0, d1, d2, p0, p1, p2, rfl, rfl, rfl, t0, t1, t2⟩ := trodAll_three hA
  obtain ⟨rfl, rfl⟩ := trodVars_none hV
  have hv0 := hval 0 24 v0 rfl rfl
  have hv1 := hval 1 22 v1 rfl rfl
  have hv2 := hval 2 2 v2 rfl rfl
  clear hval hval0
  obtain ⟨vs0, rfl, z0, cs0⟩ := cells_struct (ts := [2, 2, 22]) Try.underlying24 (by kernel_rfl) (by kernel_rfl) hv0
  obtain ⟨u0, u1, u2, rfl⟩ := list3 z0
  obtain ⟨fn0, fy0, ft0⟩ := of_trod t0
  have c0 := cs0 0 u0 2 rfl rfl
  have c1 := cs0 1 u1 2 rfl rfl
  have c2 := cs0 2 u2 22 rfl rfl
  obtain ⟨fn0_0, fy0_0, ft0_0⟩ := sub_field Try.underlying24 ft0 2 22 2 1 (by kernel_rfl) (by kernel_rfl) [u2] rfl
  have c3 : Cell.okWide Try.prog W .any base 22 v1 := by have := hv1; simp only [Value.okWide, Try.underlying22] at this; exact this
  obtain ⟨fn1, fy1, ft1⟩ := of_trod t1
  have w1 : v1.cells = #[v1] := by obtain ⟨_, _, _, rfl⟩ := okWide_slice Try.underlying22 hv1; rfl
  rw [w1] at ft1
  have c4 : Cell.okWide Try.prog W .any base 2 v2 := by have := hv2; simp only [Value.okWide, Try.underlying2] at this; exact this
  obtain ⟨x0, rfl, b0⟩ := leaf_int Try.underlying2 c0
  obtain ⟨x1, rfl, b1⟩ := leaf_int Try.underlying2 c1
  obtain ⟨H2, μ2, s2, e2, r2, l2⟩ := leaf_i64s Try.underlying22 Try.underlying2 (by kernel_rfl) c2 ft0_0 (fun i B h => by simp at h) (HR.nil W)
  obtain ⟨H3, μ3, s3, e3, r3, l3⟩ := leaf_i64s Try.underlying22 Try.underlying2 (by kernel_rfl) c3 ft1 e2.no e2.hr
  obtain ⟨x4, rfl, b4⟩ := leaf_int Try.underlying2 c4
  obtain ⟨H', hlaw⟩ := fnExactSolveOver_fn x0 x1 s2 s3 x4 H3 (i64_has b0) (i64_has b1) (e3.sl l2) l3 (i64_has b4)
  refine (law_calls hlaw e3.hr (VRs.cons (VR.ofs (VRs.cons (.int .i64 x0) (VRs.cons (.int .i64 x1) (VRs.cons (e3.vr _ _ r2) (VRs.nil _ _))))) (VRs.cons r3 (VRs.cons (.int .i64 x4) (VRs.nil _ _)))) e3.no (Try.call5 _ W)).mono fun e W' ⟨he, hb⟩ => ⟨_, he, ?_⟩
  exact law_post Try.laidOut (by rw [Try.params5]; exact of_decide_eq_true (by kernel_rfl)) rfl rfl rfl Try.underlying4 hW' hb

theorem fnExactSolveOver_holds : Rows.FnExactSolveOverSaid :=
  OpenClaim.holds_of_wide 5 Try.f5 rfl rfl rfl rfl rfl rfl rfl ⟨rfl, rfl, rfl, rfl, rfl⟩ rfl rfl rfl rfl rfl (by kernel_rfl) Try.func5 (by kernel_rfl)
    (of_decide_eq_true (by kernel_rfl)) (by unfold Func.isWrapper; first | (rw [if_pos (by decide +kernel)]; kernel_rfl) | (rw [if_neg (by decide +kernel)]; exact ⟨rfl, rfl⟩))
    (fun os started H enc _ => fnExactSolveOver_lifted os started H enc)

end Go.Proofs.Ytimlecagkbbnpaa
