/-
  The law FnExactThirdsRing returns true, whatever the input, and the input reads as it did.
-/
import Derived.Test.YtooakheodgndaaaS2
import Derived.Test.YtooakheodgndaaaL8
set_option linter.unusedSimpArgs false
set_option linter.unusedVariables false
set_option maxRecDepth 100000
namespace Go.Proofs.Ytooakheodgndaaa
open Go.ChangeShapes Go.WideShapes Go.ChangeAt Go.RowKit
open Go.Proofs.Ytooakheodgndaaa.AM

theorem Try.own : ownKnob Try.prog.godebug = none := by kernel_rfl
theorem Try.laidOut : laidOutB Try.prog = true := by kernel_rfl

theorem fnExactThirdsRing_fn (s0 : AV) (s1 : AV) (s2 : AV) (x3 : Nat) (x4 : Nat) (s5 : AV) (H : Heap) (hs0 : SlA cF H s0) (hs1 : SlA cF H s1) (hs2 : SlA cF H s2) (hs5 : SlA cF H s5) : ∃ H', FnOk Try.prog 10 [.agg [s0, s1, s2], .flt .f32 x3, .flt .f32 x4, s5] H (.bool true) H' := by
  obtain ⟨n0, hn0, h0⟩ := hs0
  have m0 := slen_max hn0
  obtain ⟨n1, hn1, h1⟩ := hs1
  have m1 := slen_max hn1
  obtain ⟨n2, hn2, h2⟩ := hs2
  have m2 := slen_max hn2
  obtain ⟨n5, hn5, h5⟩ := hs5
  have m5 := slen_max hn5
  by_cases hw : WS H
  case neg => exact ⟨H, FnOk.ws fun h => absurd h hw⟩
  let F : Fr := ⟨H, [], List.nodup_nil, by simp, hw, fun k => (([s0, s1, s2, s5] : List AV)[k]?).getD .top⟩
  by_cases g0 : n0 ≤ maxN
  case neg =>
    obtain ⟨H', h, _⟩ := laws_FnExactThirdsRing_len_fn n0 n1 n2 x3 x4 n5 F rfl (st_nil rfl) ⟨⟨hslc_ok rfl (slen_lens hn0), hslc_ok rfl (slen_lens hn1), hslc_ok rfl (slen_lens hn2), trivial⟩, trivial, trivial, hslc_ok rfl (slen_lens hn5), trivial⟩ (tr_lawL n0 n1 n2 x3 x4 n5 m0 m1 m2 m5 (by omega))
    exact ⟨H', h⟩
  by_cases g1 : n1 ≤ maxN
  case neg =>
    obtain ⟨H', h, _⟩ := laws_FnExactThirdsRing_len_fn n0 n1 n2 x3 x4 n5 F rfl (st_nil rfl) ⟨⟨hslc_ok rfl (slen_lens hn0), hslc_ok rfl (slen_lens hn1), hslc_ok rfl (slen_lens hn2), trivial⟩, trivial, trivial, hslc_ok rfl (slen_lens hn5), trivial⟩ (tr_lawL n0 n1 n2 x3 x4 n5 m0 m1 m2 m5 (by omega))
    exact ⟨H', h⟩
  by_cases g2 : n2 ≤ maxN
  case neg =>
    obtain ⟨H', h, _⟩ := laws_FnExactThirdsRing_len_fn n0 n1 n2 x3 x4 n5 F rfl (st_nil rfl) ⟨⟨hslc_ok rfl (slen_lens hn0), hslc_ok rfl (slen_lens hn1), hslc_ok rfl (slen_lens hn2), trivial⟩, trivial, trivial, hslc_ok rfl (slen_lens hn5), trivial⟩ (tr_lawL n0 n1 n2 x3 x4 n5 m0 m1 m2 m5 (by omega))
    exact ⟨H', h⟩
  by_cases g5 : n5 ≤ maxN
  case neg =>
    obtain ⟨H', h, _⟩ := laws_FnExactThirdsRing_len_fn n0 n1 n2 x3 x4 n5 F rfl (st_nil rfl) ⟨⟨hslc_ok rfl (slen_lens hn0), hslc_ok rfl (slen_lens hn1), hslc_ok rfl (slen_lens hn2), trivial⟩, trivial, trivial, hslc_ok rfl (slen_lens hn5), trivial⟩ (tr_lawL n0 n1 n2 x3 x4 n5 m0 m1 m2 m5 (by omega))
    exact ⟨H', h⟩
  obtain ⟨x0, l0, k0⟩ := h0 g0
  obtain ⟨x1, l1, k1⟩ := h1 g1
  obtain ⟨x2, l2, k2⟩ := h2 g2
  obtain ⟨x5, l5, k5⟩ := h5 g5
  obtain ⟨H', h, _⟩ := laws_FnExactThirdsRing_fn x0 x1 x2 x3 x4 x5 F rfl (st_nil rfl) ⟨⟨bslc_ok rfl k0, bslc_ok rfl k1, bslc_ok rfl k2, trivial⟩, trivial, trivial, bslc_ok rfl k5, trivial⟩ (tr_law x0 x1 x2 x3 x4 x5 (by rw [l0]; exact g0) (by rw [l1]; exact g1) (by rw [l2]; exact g2) (by rw [l5]; exact g5))
  exact ⟨H', h⟩

theorem fnExactThirdsRing_lifted (os : Os) (started : os.Started) (H : Type) (enc : TypeId × Value → H) :
    ReturnsInHanded {} Try.checked os 10 .any (Rows.fnExactThirdsRingSpec.pre6 enc Try.prog Try.f10 Rows.fnExactThirdsRingRow.domain false) (Rows.fnExactThirdsRingSpec.post enc Try.prog Try.f10 false true false false) := by
  refine returnsInHanded_of_change (C := Try.checked) Try.own started (by kernel_rfl) Try.func10
    (ChangeSpec.witness6 (enc := enc) (C := Try.checked) false ⟨#[], #[.agg #[.slice none 0 0, .slice none 0 0, .slice none 0 0], .float .f32 0, .float .f32 0, .slice none 0 0], []⟩ 8 (by kernel_rfl) (by kernel_rfl) (by kernel_rfl) (by kernel_rfl)) ?_
  intro W base args ds gs before hval0 hW hcnd _
  have hval : ∀ (j : Nat) t v, Try.f10.params[j]? = some t → args[j]? = some v → Value.okWide Try.prog W .any base t v := hval0
  have hW' := hW
  obtain ⟨p, q, hA0, hV, rfl, hfz, hnd⟩ := hW
  have hA : DataW.TrodAll enc Try.prog W 0 (fun _ => true) true Try.f10.params.toList args.toList ds p := hA0
  rw [Try.params10] at hA hval
  obtain ⟨v0, v1, v2, v3, d0, d1, d2, d3, p0, p1, p2, p3, rfl, rfl, rfl, t0, t1, t2, t3⟩ := trodAll_4 hA
  obtain ⟨rfl, rfl⟩ := trodVars_none hV
  have hv0 := hval 0 58 v0 rfl rfl
  have hv1 := hval 1 38 v1 rfl rfl
  have hv2 := hval 2 38 v2 rfl rfl
  have hv3 := hval 3 22 v3 rfl rfl
  clear hval hval0
  obtain ⟨vs0, rfl, z0, cs0⟩ := cells_struct (ts := [22, 22, 22]) Try.underlying58 (by kernel_rfl) (by kernel_rfl) hv0
  obtain ⟨u0, u1, u2, rfl⟩ := list3 z0
  obtain ⟨fn0, fy0, ft0⟩ := of_trod t0
  have c0 := cs0 0 u0 22 rfl rfl
  have c1 := cs0 1 u1 22 rfl rfl
  have c2 := cs0 2 u2 22 rfl rfl
  obtain ⟨fn0_0, fy0_0, ft0_0⟩ := sub_field Try.underlying58 ft0 0 22 0 1 (by kernel_rfl) (by kernel_rfl) [u0] rfl
  obtain ⟨fn0_1, fy0_1, ft0_1⟩ := sub_field Try.underlying58 ft0 1 22 1 1 (by kernel_rfl) (by kernel_rfl) [u1] rfl
  obtain ⟨fn0_2, fy0_2, ft0_2⟩ := sub_field Try.underlying58 ft0 2 22 2 1 (by kernel_rfl) (by kernel_rfl) [u2] rfl
  have c3 : Cell.okWide Try.prog W .any base 38 v1 := by have := hv1; simp only [Value.okWide, Try.underlying38] at this; exact this
  have c4 : Cell.okWide Try.prog W .any base 38 v2 := by have := hv2; simp only [Value.okWide, Try.underlying38] at this; exact this
  have c5 : Cell.okWide Try.prog W .any base 22 v3 := by have := hv3; simp only [Value.okWide, Try.underlying22] at this; exact this
  obtain ⟨fn3, fy3, ft3⟩ := of_trod t3
  have w3 : v3.cells = #[v3] := by obtain ⟨_, _, _, rfl⟩ := okWide_slice Try.underlying22 hv3; rfl
  rw [w3] at ft3
  obtain ⟨H0, μ0, s0, e0, r0, l0⟩ := leaf_f32s Try.underlying22 Try.underlying38 (by kernel_rfl) c0 ft0_0 (fun i B h => by simp at h) (HR.nil W)
  obtain ⟨H1, μ1, s1, e1, r1, l1⟩ := leaf_f32s Try.underlying22 Try.underlying38 (by kernel_rfl) c1 ft0_1 e0.no e0.hr
  obtain ⟨H2, μ2, s2, e2, r2, l2⟩ := leaf_f32s Try.underlying22 Try.underlying38 (by kernel_rfl) c2 ft0_2 e1.no e1.hr
  obtain ⟨x3, r3⟩ := leaf_flt Try.underlying38 c3
  obtain ⟨x4, r4⟩ := leaf_flt Try.underlying38 c4
  obtain ⟨H5, μ5, s5, e5, r5, l5⟩ := leaf_f32s Try.underlying22 Try.underlying38 (by kernel_rfl) c5 ft3 e2.no e2.hr
  obtain ⟨H', hlaw⟩ := fnExactThirdsRing_fn s0 s1 s2 x3 x4 s5 H5 (e5.sl (e2.sl (e1.sl l0))) (e5.sl (e2.sl l1)) (e5.sl l2) l5
  refine (law_calls hlaw e5.hr (VRs.cons (VR.ofs (VRs.cons (e5.vr _ _ (e2.vr _ _ (e1.vr _ _ r0))) (VRs.cons (e5.vr _ _ (e2.vr _ _ r1)) (VRs.cons (e5.vr _ _ r2) (VRs.nil _ _))))) (VRs.cons (r3 _ _) (VRs.cons (r4 _ _) (VRs.cons r5 (VRs.nil _ _))))) e5.no (Try.call10 _ W)).mono fun e W' ⟨he, hb⟩ => ⟨_, he, ?_⟩
  exact law_post Try.laidOut (by rw [Try.params10]; exact of_decide_eq_true (by kernel_rfl)) rfl rfl rfl Try.underlying4 hW' hb

theorem fnExactThirdsRing_holds : Rows.FnExactThirdsRingSaid :=
  OpenClaim.holds_of_wide 10 Try.f10 rfl rfl rfl rfl rfl rfl rfl ⟨rfl, rfl, rfl, rfl, rfl⟩ rfl rfl rfl rfl rfl (by kernel_rfl) Try.func10 (by kernel_rfl)
    (of_decide_eq_true (by kernel_rfl)) (by unfold Func.isWrapper; first | (rw [if_pos (by decide +kernel)]; kernel_rfl) | (rw [if_neg (by decide +kernel)]; exact ⟨rfl, rfl⟩))
    (fun os started H enc _ => fnExactThirdsRing_lifted os started H enc)

end Go.Proofs.Ytooakheodgndaaa
