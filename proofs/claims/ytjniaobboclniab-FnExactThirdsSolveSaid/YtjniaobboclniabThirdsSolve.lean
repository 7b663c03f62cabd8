/-
  The law FnExactThirdsSolve returns true, whatever the input, and the input reads as it did.
-/
import Derived.Test.YtjniaobboclniabS2
import Derived.Test.YtjniaobboclniabL7
set_option linter.unusedSimpArgs false
set_option linter.unusedVariables false
set_option maxRecDepth 100000
namespace Go.Proofs.Ytjniaobboclniab
open Go.ChangeShapes Go.WideShapes Go.ChangeAt Go.RowKit
open Go.Proofs.Ytjniaobboclniab.AM

theorem Try.own : ownKnob Try.prog.godebug = none := by kernel_rfl
theorem Try.laidOut : laidOutB Try.prog = true := by kernel_rfl

theorem fnExactThirdsSolve_fn (s0 : AV) (s1 : AV) (s2 : AV) (s3 : AV) (H : Heap) (hs0 : SlA cF H s0) (hs1 : SlA cF H s1) (hs2 : SlA cF H s2) (hs3 : SlA cF H s3) : ∃ H', FnOk Try.prog 4 [.agg [s0, s1, s2], s3] H (.bool true) H' := by
  obtain ⟨n0, hn0, h0⟩ := hs0
  have m0 := slen_max hn0
  obtain ⟨n1, hn1, h1⟩ := hs1
  have m1 := slen_max hn1
  obtain ⟨n2, hn2, h2⟩ := hs2
  have m2 := slen_max hn2
  obtain ⟨n3, hn3, h3⟩ := hs3
  have m3 := slen_max hn3
  by_cases hw : WS H
  case neg => exact ⟨H, FnOk.ws fun h => absurd h hw⟩
  let F : Fr := ⟨H, [], List.nodup_nil, by simp, hw, fun k => (([s0, s1, s2, s3] : List AV)[k]?).getD .top⟩
  by_cases g0 : n0 ≤ maxN
  case neg =>
    obtain ⟨H', h, _⟩ := laws_FnExactThirdsSolve_len_fn n0 n1 n2 n3 F rfl (st_nil rfl) ⟨⟨hslc_ok rfl (slen_lens hn0), hslc_ok rfl (slen_lens hn1), hslc_ok rfl (slen_lens hn2), trivial⟩, hslc_ok rfl (slen_lens hn3), trivial⟩ (ts_lawL n0 n1 n2 n3 m0 m1 m2 m3 (by omega))
    exact ⟨H', h⟩
  by_cases g1 : n1 ≤ maxN
  case neg =>
    obtain ⟨H', h, _⟩ := laws_FnExactThirdsSolve_len_fn n0 n1 n2 n3 F rfl (st_nil rfl) ⟨⟨hslc_ok rfl (slen_lens hn0), hslc_ok rfl (slen_lens hn1), hslc_ok rfl (slen_lens hn2), trivial⟩, hslc_ok rfl (slen_lens hn3), trivial⟩ (ts_lawL n0 n1 n2 n3 m0 m1 m2 m3 (by omega))
    exact ⟨H', h⟩
  by_cases g2 : n2 ≤ maxN
  case neg =>
    obtain ⟨H', h, _⟩ := laws_FnExactThirdsSolve_len_fn n0 n1 n2 n3 F rfl (st_nil rfl) ⟨⟨hslc_ok rfl (slen_lens hn0), hslc_ok rfl (slen_lens hn1), hslc_ok rfl (slen_lens hn2), trivial⟩, hslc_ok rfl (slen_lens hn3), trivial⟩ (ts_lawL n0 n1 n2 n3 m0 m1 m2 m3 (by omega))
    exact ⟨H', h⟩
  by_cases g3 : n3 ≤ maxN
  case neg =>
    obtain ⟨H', h, _⟩ := laws_FnExactThirdsSolve_len_fn n0 n1 n2 n3 F rfl (st_nil rfl) ⟨⟨hslc_ok rfl (slen_lens hn0), hslc_ok rfl (slen_lens hn1), hslc_ok rfl (slen_lens hn2), trivial⟩, hslc_ok rfl (slen_lens hn3), trivial⟩ (ts_lawL n0 n1 n2 n3 m0 m1 m2 m3 (by omega))
    exact ⟨H', h⟩
  obtain ⟨x0, l0, k0⟩ := h0 g0
  obtain ⟨x1, l1, k1⟩ := h1 g1
  obtain ⟨x2, l2, k2⟩ := h2 g2
  obtain ⟨x3, l3, k3⟩ := h3 g3
  obtain ⟨H', h, _⟩ := laws_FnExactThirdsSolve_fn x0 x1 x2 x3 F rfl (st_nil rfl) ⟨⟨bslc_ok rfl k0, bslc_ok rfl k1, bslc_ok rfl k2, trivial⟩, bslc_ok rfl k3, trivial⟩ (ts_law x0 x1 x2 x3 (by rw [l0]; exact g0) (by rw [l1]; exact g1) (by rw [l2]; exact g2) (by rw [l3]; exact g3))
  exact ⟨H', h⟩

theorem fnExactThirdsSolve_lifted (os : Os) (started : os.Started) (H : Type) (enc : TypeId × Value → H) :
    ReturnsInHanded {} Try.checked os 4 .any (Rows.fnExactThirdsSolveSpec.pre6 enc Try.prog Try.f4 Rows.fnExactThirdsSolveRow.domain false) (Rows.fnExactThirdsSolveSpec.post enc Try.prog Try.f4 false true false false) := by
  refine returnsInHanded_of_change (C := Try.checked) Try.own started (by kernel_rfl) Try.func4
    (ChangeSpec.witness6 (enc := enc) (C := Try.checked) false ⟨#[], #[.agg #[.slice none 0 0, .slice none 0 0, .slice none 0 0], .slice none 0 0], []⟩ 8 (by kernel_rfl) (by kernel_rfl) (by kernel_rfl) (by kernel_rfl)) ?_
  intro W base args ds gs before hval0 hW hcnd _
  have hval : ∀ (j : Nat) t v, Try.f4.params[j]? = some t → args[j]? = some v → Value.okWide Try.prog W .any base t v := hval0
  have hW' := hW
  obtain ⟨p, q, hA0, hV, rfl, hfz, hnd⟩ := hW
  have hA : DataW.TrodAll enc Try.prog W 0 (fun _ => true) true Try.f4.params.toList args.toList ds p := hA0
  rw [Try.params4] at hA hval
  obtain ⟨v0, v1, d0, d1, p0, p1, rfl, rfl, rfl, t0, t1⟩ := trodAll_two hA
  obtain ⟨rfl, rfl⟩ := trodVars_none hV
  have hv0 := hval 0 34 v0 rfl rfl
  have hv1 := hval 1 22 v1 rfl rfl
  clear hval hval0
  obtain ⟨vs0, rfl, z0, cs0⟩ := cells_struct (ts := [22, 22, 22]) Try.underlying34 (by kernel_rfl) (by kernel_rfl) hv0
  obtain ⟨u0, u1, u2, rfl⟩ := list3 z0
  obtain ⟨fn0, fy0, ft0⟩ := of_trod t0
  have c0 := cs0 0 u0 22 rfl rfl
  have c1 := cs0 1 u1 22 rfl rfl
  have c2 := cs0 2 u2 22 rfl rfl
  obtain ⟨fn0_0, fy0_0, ft0_0⟩ := sub_field Try.underlying34 ft0 0 22 0 1 (by kernel_rfl) (by kernel_rfl) [u0] rfl
  obtain ⟨fn0_1, fy0_1, ft0_1⟩ := sub_field Try.underlying34 ft0 1 22 1 1 (by kernel_rfl) (by kernel_rfl) [u1] rfl
  obtain ⟨fn0_2, fy0_2, ft0_2⟩ := sub_field Try.underlying34 ft0 2 22 2 1 (by kernel_rfl) (by kernel_rfl) [u2] rfl
  have c3 : Cell.okWide Try.prog W .any base 22 v1 := by have := hv1; simp only [Value.okWide, Try.underlying22] at this; exact this
  obtain ⟨fn1, fy1, ft1⟩ := of_trod t1
  have w1 : v1.cells = #[v1] := by obtain ⟨_, _, _, rfl⟩ := okWide_slice Try.underlying22 hv1; rfl
  rw [w1] at ft1
  obtain ⟨H0, μ0, s0, e0, r0, l0⟩ := leaf_f32s Try.underlying22 Try.underlying71 (by kernel_rfl) c0 ft0_0 (fun i B h => by simp at h) (HR.nil W)
  obtain ⟨H1, μ1, s1, e1, r1, l1⟩ := leaf_f32s Try.underlying22 Try.underlying71 (by kernel_rfl) c1 ft0_1 e0.no e0.hr
  obtain ⟨H2, μ2, s2, e2, r2, l2⟩ := leaf_f32s Try.underlying22 Try.underlying71 (by kernel_rfl) c2 ft0_2 e1.no e1.hr
  obtain ⟨H3, μ3, s3, e3, r3, l3⟩ := leaf_f32s Try.underlying22 Try.underlying71 (by kernel_rfl) c3 ft1 e2.no e2.hr
  obtain ⟨H', hlaw⟩ := fnExactThirdsSolve_fn s0 s1 s2 s3 H3 (e3.sl (e2.sl (e1.sl l0))) (e3.sl (e2.sl l1)) (e3.sl l2) l3
  refine (law_calls hlaw e3.hr (VRs.cons (VR.ofs (VRs.cons (e3.vr _ _ (e2.vr _ _ (e1.vr _ _ r0))) (VRs.cons (e3.vr _ _ (e2.vr _ _ r1)) (VRs.cons (e3.vr _ _ r2) (VRs.nil _ _))))) (VRs.cons r3 (VRs.nil _ _))) e3.no (Try.call4 _ W)).mono fun e W' ⟨he, hb⟩ => ⟨_, he, ?_⟩
  exact law_post Try.laidOut (by rw [Try.params4]; exact of_decide_eq_true (by kernel_rfl)) rfl rfl rfl Try.underlying4 hW' hb

theorem fnExactThirdsSolve_holds : Rows.FnExactThirdsSolveSaid :=
  OpenClaim.holds_of_wide 4 Try.f4 rfl rfl rfl rfl rfl rfl rfl ⟨rfl, rfl, rfl, rfl, rfl⟩ rfl rfl rfl rfl rfl (by kernel_rfl) Try.func4 (by kernel_rfl)
    (of_decide_eq_true (by kernel_rfl)) (by unfold Func.isWrapper; first | (rw [if_pos (by decide +kernel)]; kernel_rfl) | (rw [if_neg (by decide +kernel)]; exact ⟨rfl, rfl⟩))
    (fun os started H enc _ => fnExactThirdsSolve_lifted os started H enc)

end Go.Proofs.Ytjniaobboclniab
