/-
  The law FnExactThirdsShared returns true, whatever the input, and the input reads as it did.
-/
import Derived.Test.YtimlecagkbbnpaaS3
import Derived.Test.YtimlecagkbbnpaaQThirdsShared
set_option linter.unusedSimpArgs false
set_option linter.unusedVariables false
set_option maxRecDepth 100000
namespace Go.Proofs.Ytimlecagkbbnpaa
open Go.ChangeShapes Go.WideShapes Go.ChangeAt Go.RowKit
open Go.Proofs.Ytimlecagkbbnpaa.AM

theorem Try.own : ownKnob Try.prog.godebug = none := by kernel_rfl
theorem Try.laidOut : laidOutB Try.prog = true := by kernel_rfl

theorem fnExactThirdsShared_fn (s0 : AV) (X0 : Nat → AV) (n0 : Nat) (s1 : AV) (x2 : Int) (H : Heap) (hs0 : RnA [.f32s, .f32s, .f32s] H s0 X0 n0) (hs1 : SlA cF H s1) (b2 : -9223372036854775808 ≤ x2 ∧ x2 < 9223372036854775808) : ∃ H', FnOk Try.prog 10 [s0, s1, .int .i64 x2] H (.bool true) H' := by
  obtain ⟨ns0_0, ln0_0, hn0_0, hx0_0⟩ := hs0.lens (c := 0) rfl
  have hm0_0 : ∀ i, i < n0 → nth ns0_0 i < 9223372036854775808 := fun i hi => slen_max (hn0_0 i hi)
  obtain ⟨ns0_1, ln0_1, hn0_1, hx0_1⟩ := hs0.lens (c := 1) rfl
  have hm0_1 : ∀ i, i < n0 → nth ns0_1 i < 9223372036854775808 := fun i hi => slen_max (hn0_1 i hi)
  obtain ⟨ns0_2, ln0_2, hn0_2, hx0_2⟩ := hs0.lens (c := 2) rfl
  have hm0_2 : ∀ i, i < n0 → nth ns0_2 i < 9223372036854775808 := fun i hi => slen_max (hn0_2 i hi)
  obtain ⟨n1, hn1, h1⟩ := hs1
  have m1 := slen_max hn1
  by_cases hw : WS H
  case neg => exact ⟨H, FnOk.ws fun h => absurd h hw⟩
  let F : Fr := ⟨H, [], by simp, hw, fun k => (([s0, s1] : List AV)[k]?).getD (farX 3 0 X0 k), fun _ _ _ => 0⟩
  have hp0 : Pls F.ρ ([.f32s, .f32s, .f32s] : List LK).length 0 s0 X0 := pls1 (by simp) rfl (by decide)
  by_cases g0_0 : ∀ i, i < n0 → nth ns0_0 i ≤ maxN
  case neg =>
    obtain ⟨F', H', _, h, _⟩ := laws_FnExactThirdsShared_len_fn ns0_0 ns0_1 ns0_2 n1 x2 F (st_nil rfl) ⟨(hs0.rns (F := F) rfl rfl hp0 (cols := [.ln ns0_0, .ln ns0_1, .ln ns0_2]) rfl (cols3 ⟨ln0_0, hn0_0⟩ ⟨ln0_1, hn0_1⟩ ⟨ln0_2, hn0_2⟩) _), hslc_ok rfl (slen_lens hn1), trivial, trivial⟩ (thsh_lawL ns0_0 ns0_1 ns0_2 n1 x2 hs0.lt ln0_0 hm0_0 ln0_1 hm0_1 ln0_2 hm0_2 m1 b2 (.inl (exceed g0_0)))
    exact ⟨H', h⟩
  by_cases g0_1 : ∀ i, i < n0 → nth ns0_1 i ≤ maxN
  case neg =>
    obtain ⟨F', H', _, h, _⟩ := laws_FnExactThirdsShared_len_fn ns0_0 ns0_1 ns0_2 n1 x2 F (st_nil rfl) ⟨(hs0.rns (F := F) rfl rfl hp0 (cols := [.ln ns0_0, .ln ns0_1, .ln ns0_2]) rfl (cols3 ⟨ln0_0, hn0_0⟩ ⟨ln0_1, hn0_1⟩ ⟨ln0_2, hn0_2⟩) _), hslc_ok rfl (slen_lens hn1), trivial, trivial⟩ (thsh_lawL ns0_0 ns0_1 ns0_2 n1 x2 hs0.lt ln0_0 hm0_0 ln0_1 hm0_1 ln0_2 hm0_2 m1 b2 (.inr (.inl (exceed g0_1))))
    exact ⟨H', h⟩
  by_cases g0_2 : ∀ i, i < n0 → nth ns0_2 i ≤ maxN
  case neg =>
    obtain ⟨F', H', _, h, _⟩ := laws_FnExactThirdsShared_len_fn ns0_0 ns0_1 ns0_2 n1 x2 F (st_nil rfl) ⟨(hs0.rns (F := F) rfl rfl hp0 (cols := [.ln ns0_0, .ln ns0_1, .ln ns0_2]) rfl (cols3 ⟨ln0_0, hn0_0⟩ ⟨ln0_1, hn0_1⟩ ⟨ln0_2, hn0_2⟩) _), hslc_ok rfl (slen_lens hn1), trivial, trivial⟩ (thsh_lawL ns0_0 ns0_1 ns0_2 n1 x2 hs0.lt ln0_0 hm0_0 ln0_1 hm0_1 ln0_2 hm0_2 m1 b2 (.inr (.inr (.inl (exceed g0_2)))))
    exact ⟨H', h⟩
  by_cases g1 : n1 ≤ maxN
  case neg =>
    obtain ⟨F', H', _, h, _⟩ := laws_FnExactThirdsShared_len_fn ns0_0 ns0_1 ns0_2 n1 x2 F (st_nil rfl) ⟨(hs0.rns (F := F) rfl rfl hp0 (cols := [.ln ns0_0, .ln ns0_1, .ln ns0_2]) rfl (cols3 ⟨ln0_0, hn0_0⟩ ⟨ln0_1, hn0_1⟩ ⟨ln0_2, hn0_2⟩) _), hslc_ok rfl (slen_lens hn1), trivial, trivial⟩ (thsh_lawL ns0_0 ns0_1 ns0_2 n1 x2 hs0.lt ln0_0 hm0_0 ln0_1 hm0_1 ln0_2 hm0_2 m1 b2 (.inr (.inr (.inr (by omega)))))
    exact ⟨H', h⟩
  obtain ⟨y0_0, ly0_0, hy0_0⟩ := hx0_0 g0_0
  obtain ⟨y0_1, ly0_1, hy0_1⟩ := hx0_1 g0_1
  obtain ⟨y0_2, ly0_2, hy0_2⟩ := hx0_2 g0_2
  obtain ⟨x1, l1, k1, w1⟩ := h1 g1
  obtain ⟨F', H', _, h, _⟩ := laws_FnExactThirdsShared_fn y0_0 y0_1 y0_2 x1 x2 F (st_nil rfl) ⟨(hs0.rns (F := F) rfl rfl hp0 (cols := [.sl (.f32 y0_0), .sl (.f32 y0_1), .sl (.f32 y0_2)]) rfl (cols3 ⟨ly0_0, fun i hi => (hy0_0 i hi).2.1⟩ ⟨ly0_1, fun i hi => (hy0_1 i hi).2.1⟩ ⟨ly0_2, fun i hi => (hy0_2 i hi).2.1⟩) _), bslc_ok rfl k1, trivial, trivial⟩ (thsh_law y0_0 y0_1 y0_2 x1 x2 hs0.lt ly0_0 (fun i hi => ⟨(hy0_0 i hi).1, (hy0_0 i hi).2.2⟩) ly0_1 (fun i hi => ⟨(hy0_1 i hi).1, (hy0_1 i hi).2.2⟩) ly0_2 (fun i hi => ⟨(hy0_2 i hi).1, (hy0_2 i hi).2.2⟩) (by rw [l1]; exact g1) b2)
  exact ⟨H', h⟩

theorem el126 {H : Type} {enc : TypeId × Value → H} {W : World} : El enc Try.prog W 126 [.f32s, .f32s, .f32s] := by
  intro n cs y h hl c k hc
  obtain ⟨u0, u1, u2, rfl⟩ := list3 hl
  obtain ⟨_, _, ft0⟩ := sub_field Try.underlying126 h 0 48 0 1 (by kernel_rfl) (by kernel_rfl) [u0] rfl
  obtain ⟨_, _, ft1⟩ := sub_field Try.underlying126 h 1 48 1 1 (by kernel_rfl) (by kernel_rfl) [u1] rfl
  obtain ⟨_, _, ft2⟩ := sub_field Try.underlying126 h 2 48 2 1 (by kernel_rfl) (by kernel_rfl) [u2] rfl
  match c with
  | 0 => cases hc; exact ⟨u0, rfl, cellK_f32s Try.underlying48 Try.underlying51 (by kernel_rfl) ft0⟩
  | 1 => cases hc; exact ⟨u1, rfl, cellK_f32s Try.underlying48 Try.underlying51 (by kernel_rfl) ft1⟩
  | 2 => cases hc; exact ⟨u2, rfl, cellK_f32s Try.underlying48 Try.underlying51 (by kernel_rfl) ft2⟩
  | c + 3 => simp at hc

theorem fnExactThirdsShared_lifted (os : Os) (started : os.Started) (H : Type) (enc : TypeId × Value → H) :
    ReturnsInHanded {} Try.checked os 10 .any (Rows.fnExactThirdsSharedSpec.pre6 enc Try.prog Try.f10 Rows.fnExactThirdsSharedRow.domain false) (Rows.fnExactThirdsSharedSpec.post enc Try.prog Try.f10 false true false false) := by
  refine returnsInHanded_of_change (C := Try.checked) Try.own started (by kernel_rfl) Try.func10
    (ChangeSpec.witness6 (enc := enc) (C := Try.checked) false ⟨#[], #[.slice none 0 0, .slice none 0 0, .int .i64 0], []⟩ 8 (by kernel_rfl) (by kernel_rfl) (by kernel_rfl) (by kernel_rfl)) ?_
  intro W base args ds gs before hval0 hW hcnd _
  have hval : ∀ (j : Nat) t v, Try.f10.params[j]? = some t → args[j]? = some v → Value.okWide Try.prog W .any base t v := hval0
  have hW' := hW
  obtain ⟨p, q, hA0, hV, rfl, hfz, hnd⟩ := hW
  have hA : DataW.TrodAll enc Try.prog W 0 (fun _ => true) true Try.f10.params.toList args.toList ds p := hA0
  rw [Try.params10] at hA hval
  obtain ⟨v0, v1, v2, d0, d1, d2, p0, p1, p2, rfl, rfl, rfl, t0, t1, t2⟩ := trodAll_three hA
  obtain ⟨rfl, rfl⟩ := trodVars_none hV
  have hv0 := hval 0 60 v0 rfl rfl
  have hv1 := hval 1 48 v1 rfl rfl
  have hv2 := hval 2 2 v2 rfl rfl
  clear hval hval0
  obtain ⟨H0, μ0, s0, X0, n0, e0, r0, l0⟩ := arg_rns (ks := [.f32s, .f32s, .f32s]) Try.underlying60 (by kernel_rfl) (by decide) el126 hv0 t0 (fun i B h => by simp at h) (HR.nil W)
  obtain ⟨H1, μ1, s1, e1, r1, l1⟩ := arg_f32s Try.underlying48 Try.underlying51 (by kernel_rfl) hv1 t1 e0.no e0.hr
  have c2 : Cell.okWide Try.prog W .any base 2 v2 := by have := hv2; simp only [Value.okWide, Try.underlying2] at this; exact this
  obtain ⟨x2, rfl, b2⟩ := leaf_int Try.underlying2 c2
  obtain ⟨H', hlaw⟩ := fnExactThirdsShared_fn s0 X0 n0 s1 x2 H1 (e1.rn l0) l1 (i64_has b2)
  refine (law_calls hlaw e1.hr (VRs.cons (e1.vr _ _ r0) (VRs.cons r1 (VRs.cons (.int .i64 x2) (VRs.nil _ _)))) e1.no (Try.call10 _ W)).mono fun e W' ⟨he, hb⟩ => ⟨_, he, ?_⟩
  exact law_post Try.laidOut (by rw [Try.params10]; exact of_decide_eq_true (by kernel_rfl)) rfl rfl rfl Try.underlying4 hW' hb

theorem fnExactThirdsShared_holds : Rows.FnExactThirdsSharedSaid :=
  OpenClaim.holds_of_wide 10 Try.f10 rfl rfl rfl rfl rfl rfl rfl ⟨rfl, rfl, rfl, rfl, rfl⟩ rfl rfl rfl rfl rfl (by kernel_rfl) Try.func10 (by kernel_rfl)
    (of_decide_eq_true (by kernel_rfl)) (by unfold Func.isWrapper; first | (rw [if_pos (by decide +kernel)]; kernel_rfl) | (rw [if_neg (by decide +kernel)]; exact ⟨rfl, rfl⟩))
    (fun os started H enc _ => fnExactThirdsShared_lifted os started H enc)

end Go.Proofs.Ytimlecagkbbnpaa
