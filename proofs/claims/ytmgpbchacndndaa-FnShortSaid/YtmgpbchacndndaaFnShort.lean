import Derived.Test.YtmgpbchacndndaaS2
import Derived.Test.YtmgpbchacndndaaMTC
set_option linter.unusedSimpArgs false
set_option linter.unusedVariables false
set_option maxRecDepth 100000
namespace Go.Proofs.Ytmgpbchacndndaa
open Go.ChangeShapes Go.WideShapes Go.ChangeAt Go.RowKit
open Go.Proofs.Ytmgpbchacndndaa.AM
theorem Try.own : ownKnob Try.prog.godebug = none := by kernel_rfl
theorem Try.laidOut : laidOutB Try.prog = true := by kernel_rfl
theorem Aet_ (s0 : AV) (s1 : AV) (H : Heap) (hs0 : SlA cU8 H s0) (hs1 : SlA cU8 H s1) : ∃ H', FnOk Try.prog 3 [s0, s1] H (.bool true) H' := by
  obtain ⟨n0, hn0, h0⟩ := hs0
  have m0 := X8_ hn0
  obtain ⟨n1, hn1, h1⟩ := hs1
  have m1 := X8_ hn1
  by_cases hw : WS H
  case neg => exact ⟨H, FnOk.ws fun h => absurd h hw⟩
  let F : Fr := ⟨H, [], by simp, hw, fun k => (([s0, s1] : List AV)[k]?).getD .top, fun _ _ _ => 0⟩
  by_cases g0 : n0 ≤ maxN
  case neg =>
    obtain ⟨F', H', _, h, _⟩ := Yb_ n0 n1 F (Ak_ rfl) ⟨Hu_ rfl (K7_ hn0), Hu_ rfl (K7_ hn1), trivial⟩ (W9_ n0 n1 m0 m1 (by omega))
    exact ⟨H', h⟩
  by_cases g1 : n1 ≤ maxN
  case neg =>
    obtain ⟨F', H', _, h, _⟩ := Yb_ n0 n1 F (Ak_ rfl) ⟨Hu_ rfl (K7_ hn0), Hu_ rfl (K7_ hn1), trivial⟩ (W9_ n0 n1 m0 m1 (by omega))
    exact ⟨H', h⟩
  obtain ⟨x0, l0, k0, w0⟩ := h0 g0
  obtain ⟨x1, l1, k1, w1⟩ := h1 g1
  obtain ⟨F', H', _, h, _⟩ := Ahu_ x0 x1 F (Ak_ rfl) ⟨Ag_ rfl k0, Ag_ rfl k1, trivial⟩ (Agh_ x0 x1 (by rw [l0]; exact g0) w0 (by rw [l1]; exact g1) w1)
  exact ⟨H', h⟩
theorem Aiy_ (os : Os) (started : os.Started) (H : Type) (enc : TypeId × Value → H) :
    ReturnsInHanded {} Try.checked os 3 .any (Rows.fnShortSpec.pre6 enc Try.prog Try.f3 Rows.fnShortRow.domain false) (Rows.fnShortSpec.post enc Try.prog Try.f3 false true false false) := by
  refine returnsInHanded_of_change (C := Try.checked) Try.own started (by kernel_rfl) Try.func3
    (ChangeSpec.witness6 (enc := enc) (C := Try.checked) false ⟨#[], #[.slice none 0 0, .slice none 0 0], []⟩ 8 (by kernel_rfl) (by kernel_rfl) (by kernel_rfl) (by kernel_rfl)) ?_
  intro W base args ds gs before hval0 hW hcnd _
  have hval : ∀ (j : Nat) t v, Try.f3.params[j]? = some t → args[j]? = some v → Value.okWide Try.prog W .any base t v := hval0
  have hW' := hW
  obtain ⟨p, q, hA0, hV, rfl, hfz, hnd⟩ := hW
  have hA : DataW.TrodAll enc Try.prog W 0 (fun _ => true) true Try.f3.params.toList args.toList ds p := hA0
  rw [Try.params3] at hA hval
  obtain ⟨v0, v1, d0, d1, p0, p1, rfl, rfl, rfl, t0, t1⟩ := trodAll_two hA
  obtain ⟨rfl, rfl⟩ := trodVars_none hV
  have hv0 := hval 0 22 v0 rfl rfl
  have hv1 := hval 1 22 v1 rfl rfl
  clear hval hval0
  have c0 : Cell.okWide Try.prog W .any base 22 v0 := by have := hv0; simp only [Value.okWide, Try.underlying22] at this; exact this
  obtain ⟨fn0, fy0, ft0⟩ := Tv_ t0
  have w0 : v0.cells = #[v0] := by obtain ⟨_, _, _, rfl⟩ := okWide_slice Try.underlying22 hv0; rfl
  rw [w0] at ft0
  have c1 : Cell.okWide Try.prog W .any base 22 v1 := by have := hv1; simp only [Value.okWide, Try.underlying22] at this; exact this
  obtain ⟨fn1, fy1, ft1⟩ := Tv_ t1
  have w1 : v1.cells = #[v1] := by obtain ⟨_, _, _, rfl⟩ := okWide_slice Try.underlying22 hv1; rfl
  rw [w1] at ft1
  obtain ⟨H0, μ0, s0, e0, r0, l0⟩ := Uk_ Try.underlying22 Try.underlying5 (by kernel_rfl) c0 ft0 (fun i B h => by simp at h) (HR.nil W)
  obtain ⟨H1, μ1, s1, e1, r1, l1⟩ := Uk_ Try.underlying22 Try.underlying5 (by kernel_rfl) c1 ft1 e0.no e0.hr
  obtain ⟨H', hlaw⟩ := Aet_ s0 s1 H1 (e1.sl l0) l1
  refine (Alh_ hlaw e1.hr (VRs.cons (e1.vr _ _ r0) (VRs.cons r1 (VRs.nil _ _))) e1.no (Try.call3 _ W)).mono fun e W' ⟨he, hb⟩ => ⟨_, he, ?_⟩
  exact Amv_ Try.laidOut (by rw [Try.params3]; exact of_decide_eq_true (by kernel_rfl)) rfl rfl rfl Try.underlying4 hW' hb
theorem fnShort_holds : Rows.FnShortSaid :=
  OpenClaim.holds_of_wide 3 Try.f3 rfl rfl rfl rfl rfl rfl rfl ⟨rfl, rfl, rfl, rfl, rfl⟩ rfl rfl rfl rfl rfl (by kernel_rfl) Try.func3 (by kernel_rfl)
    (of_decide_eq_true (by kernel_rfl)) (by unfold Func.isWrapper; first | (rw [if_pos (by decide +kernel)]; kernel_rfl) | (rw [if_neg (by decide +kernel)]; exact ⟨rfl, rfl⟩))
    (fun os started H enc _ => Aiy_ os started H enc)
end Go.Proofs.Ytmgpbchacndndaa
