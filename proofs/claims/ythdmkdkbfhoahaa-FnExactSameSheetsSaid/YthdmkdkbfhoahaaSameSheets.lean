/-
  The law FnExactSameSheets returns true, whatever the input, and the input reads as it did.
-/
import Derived.Test.YthdmkdkbfhoahaaS3
import Derived.Test.YthdmkdkbfhoahaaQSameSheets
set_option linter.unusedSimpArgs false
set_option linter.unusedVariables false
set_option maxRecDepth 100000
namespace Go.Proofs.Ythdmkdkbfhoahaa
open Go.ChangeShapes Go.WideShapes Go.ChangeAt Go.RowKit
open Go.Proofs.Ythdmkdkbfhoahaa.AM

theorem Try.own : ownKnob Try.prog.godebug = none := by kernel_rfl
theorem Try.laidOut : laidOutB Try.prog = true := by kernel_rfl

theorem fnExactSameSheets_fn (s0 : AV) (X0 : Nat → AV) (n0 : Nat) (s1 : AV) (X1 : Nat → AV) (n1 : Nat) (H : Heap) (hs0 : RnA [.str, .i64, .i64, .f32s] H s0 X0 n0) (hs1 : RnA [.str, .i64, .i64, .f32s] H s1 X1 n1) : ∃ H', FnOk Try.prog 5 [s0, s1] H (.bool true) H' := by
  obtain ⟨x0_0, lx0_0, hx0_0⟩ := hs0.strs (c := 0) rfl
  obtain ⟨x0_1, lx0_1, hx0_1⟩ := hs0.ints (c := 1) rfl
  obtain ⟨x0_2, lx0_2, hx0_2⟩ := hs0.ints (c := 2) rfl
  obtain ⟨ns0_3, ln0_3, hn0_3, hx0_3⟩ := hs0.lens (c := 3) rfl
  have hm0_3 : ∀ i, i < n0 → nth ns0_3 i < 9223372036854775808 := fun i hi => slen_max (hn0_3 i hi)
  obtain ⟨x1_0, lx1_0, hx1_0⟩ := hs1.strs (c := 0) rfl
  obtain ⟨x1_1, lx1_1, hx1_1⟩ := hs1.ints (c := 1) rfl
  obtain ⟨x1_2, lx1_2, hx1_2⟩ := hs1.ints (c := 2) rfl
  obtain ⟨ns1_3, ln1_3, hn1_3, hx1_3⟩ := hs1.lens (c := 3) rfl
  have hm1_3 : ∀ i, i < n1 → nth ns1_3 i < 9223372036854775808 := fun i hi => slen_max (hn1_3 i hi)
  by_cases hw : WS H
  case neg => exact ⟨H, FnOk.ws fun h => absurd h hw⟩
  let F : Fr := ⟨H, [], by simp, hw, fun k => (([s0, s1] : List AV)[k]?).getD (farX2 4 0 X0 4 1 X1 k), fun _ _ _ => 0⟩
  have hp0 : Pls F.ρ ([.str, .i64, .i64, .f32s] : List LK).length 0 s0 X0 := pls2a (by simp) rfl (by decide)
  have hp1 : Pls F.ρ ([.str, .i64, .i64, .f32s] : List LK).length 1 s1 X1 := pls2b (by simp) rfl (by decide) (by decide)
  by_cases g0_3 : ∀ i, i < n0 → nth ns0_3 i ≤ maxN
  case neg =>
    obtain ⟨F', H', _, h, _⟩ := laws_FnExactSameSheets_len_fn x0_0 x0_1 x0_2 ns0_3 x1_0 x1_1 x1_2 ns1_3 F (st_nil rfl) ⟨(hs0.rns (F := F) rfl rfl hp0 (cols := [.pl (.str x0_0), .pl (.i64 x0_1), .pl (.i64 x0_2), .ln ns0_3]) rfl (cols4 ⟨lx0_0, fun i hi => (hx0_0 i hi).1⟩ ⟨lx0_1, fun i hi => (hx0_1 i hi).1⟩ ⟨lx0_2, fun i hi => (hx0_2 i hi).1⟩ ⟨ln0_3, hn0_3⟩) _), (hs1.rns (F := F) rfl rfl hp1 (cols := [.pl (.str x1_0), .pl (.i64 x1_1), .pl (.i64 x1_2), .ln ns1_3]) rfl (cols4 ⟨lx1_0, fun i hi => (hx1_0 i hi).1⟩ ⟨lx1_1, fun i hi => (hx1_1 i hi).1⟩ ⟨lx1_2, fun i hi => (hx1_2 i hi).1⟩ ⟨ln1_3, hn1_3⟩) _), trivial⟩ (sames_lawL x0_0 x0_1 x0_2 ns0_3 x1_0 x1_1 x1_2 ns1_3 hs0.lt lx0_0 (fun i hi => (hx0_0 i hi).2) lx0_1 (fun i hi => (hx0_1 i hi).2) lx0_2 (fun i hi => (hx0_2 i hi).2) ln0_3 hm0_3 hs1.lt lx1_0 (fun i hi => (hx1_0 i hi).2) lx1_1 (fun i hi => (hx1_1 i hi).2) lx1_2 (fun i hi => (hx1_2 i hi).2) ln1_3 hm1_3 (.inl (exceed g0_3)))
    exact ⟨H', h⟩
  by_cases g1_3 : ∀ i, i < n1 → nth ns1_3 i ≤ maxN
  case neg =>
    obtain ⟨F', H', _, h, _⟩ := laws_FnExactSameSheets_len_fn x0_0 x0_1 x0_2 ns0_3 x1_0 x1_1 x1_2 ns1_3 F (st_nil rfl) ⟨(hs0.rns (F := F) rfl rfl hp0 (cols := [.pl (.str x0_0), .pl (.i64 x0_1), .pl (.i64 x0_2), .ln ns0_3]) rfl (cols4 ⟨lx0_0, fun i hi => (hx0_0 i hi).1⟩ ⟨lx0_1, fun i hi => (hx0_1 i hi).1⟩ ⟨lx0_2, fun i hi => (hx0_2 i hi).1⟩ ⟨ln0_3, hn0_3⟩) _), (hs1.rns (F := F) rfl rfl hp1 (cols := [.pl (.str x1_0), .pl (.i64 x1_1), .pl (.i64 x1_2), .ln ns1_3]) rfl (cols4 ⟨lx1_0, fun i hi => (hx1_0 i hi).1⟩ ⟨lx1_1, fun i hi => (hx1_1 i hi).1⟩ ⟨lx1_2, fun i hi => (hx1_2 i hi).1⟩ ⟨ln1_3, hn1_3⟩) _), trivial⟩ (sames_lawL x0_0 x0_1 x0_2 ns0_3 x1_0 x1_1 x1_2 ns1_3 hs0.lt lx0_0 (fun i hi => (hx0_0 i hi).2) lx0_1 (fun i hi => (hx0_1 i hi).2) lx0_2 (fun i hi => (hx0_2 i hi).2) ln0_3 hm0_3 hs1.lt lx1_0 (fun i hi => (hx1_0 i hi).2) lx1_1 (fun i hi => (hx1_1 i hi).2) lx1_2 (fun i hi => (hx1_2 i hi).2) ln1_3 hm1_3 (.inr (exceed g1_3)))
    exact ⟨H', h⟩
  obtain ⟨y0_3, ly0_3, hy0_3⟩ := hx0_3 g0_3
  obtain ⟨y1_3, ly1_3, hy1_3⟩ := hx1_3 g1_3
  obtain ⟨F', H', _, h, _⟩ := laws_FnExactSameSheets_fn x0_0 x0_1 x0_2 y0_3 x1_0 x1_1 x1_2 y1_3 F (st_nil rfl) ⟨(hs0.rns (F := F) rfl rfl hp0 (cols := [.pl (.str x0_0), .pl (.i64 x0_1), .pl (.i64 x0_2), .sl (.f32 y0_3)]) rfl (cols4 ⟨lx0_0, fun i hi => (hx0_0 i hi).1⟩ ⟨lx0_1, fun i hi => (hx0_1 i hi).1⟩ ⟨lx0_2, fun i hi => (hx0_2 i hi).1⟩ ⟨ly0_3, fun i hi => (hy0_3 i hi).2.1⟩) _), (hs1.rns (F := F) rfl rfl hp1 (cols := [.pl (.str x1_0), .pl (.i64 x1_1), .pl (.i64 x1_2), .sl (.f32 y1_3)]) rfl (cols4 ⟨lx1_0, fun i hi => (hx1_0 i hi).1⟩ ⟨lx1_1, fun i hi => (hx1_1 i hi).1⟩ ⟨lx1_2, fun i hi => (hx1_2 i hi).1⟩ ⟨ly1_3, fun i hi => (hy1_3 i hi).2.1⟩) _), trivial⟩ (sames_law x0_0 x0_1 x0_2 y0_3 x1_0 x1_1 x1_2 y1_3 hs0.lt lx0_0 (fun i hi => (hx0_0 i hi).2) lx0_1 (fun i hi => (hx0_1 i hi).2) lx0_2 (fun i hi => (hx0_2 i hi).2) ly0_3 (fun i hi => ⟨(hy0_3 i hi).1, (hy0_3 i hi).2.2⟩) hs1.lt lx1_0 (fun i hi => (hx1_0 i hi).2) lx1_1 (fun i hi => (hx1_1 i hi).2) lx1_2 (fun i hi => (hx1_2 i hi).2) ly1_3 (fun i hi => ⟨(hy1_3 i hi).1, (hy1_3 i hi).2.2⟩))
  exact ⟨H', h⟩

theorem el26 {H : Type} {enc : TypeId × Value → H} {W : World} : El enc Try.prog W 26 [.str, .i64, .i64, .f32s] := by
  intro n cs y h hl c k hc
  obtain ⟨u0, u1, u2, u3, rfl⟩ := list4 hl
  obtain ⟨_, _, ft0⟩ := sub_field Try.underlying26 h 0 9 0 1 (by kernel_rfl) (by kernel_rfl) [u0] rfl
  obtain ⟨_, _, ft1⟩ := sub_field Try.underlying26 h 1 24 1 3 (by kernel_rfl) (by kernel_rfl) [u1, u2, u3] rfl
  obtain ⟨_, _, ft2⟩ := sub_field Try.underlying24 ft1 0 2 0 1 (by kernel_rfl) (by kernel_rfl) [u1] rfl
  obtain ⟨_, _, ft3⟩ := sub_field Try.underlying24 ft1 1 2 1 1 (by kernel_rfl) (by kernel_rfl) [u2] rfl
  obtain ⟨_, _, ft4⟩ := sub_field Try.underlying24 ft1 2 22 2 1 (by kernel_rfl) (by kernel_rfl) [u3] rfl
  match c with
  | 0 => cases hc; exact ⟨u0, rfl, cellK_str Try.underlying9 ft0⟩
  | 1 => cases hc; exact ⟨u1, rfl, cellK_i64 Try.underlying2 ft2⟩
  | 2 => cases hc; exact ⟨u2, rfl, cellK_i64 Try.underlying2 ft3⟩
  | 3 => cases hc; exact ⟨u3, rfl, cellK_f32s Try.underlying22 Try.underlying83 (by kernel_rfl) ft4⟩
  | c + 4 => simp at hc

theorem fnExactSameSheets_lifted (os : Os) (started : os.Started) (H : Type) (enc : TypeId × Value → H) :
    ReturnsInHanded {} Try.checked os 5 .any (Rows.fnExactSameSheetsSpec.pre6 enc Try.prog Try.f5 Rows.fnExactSameSheetsRow.domain false) (Rows.fnExactSameSheetsSpec.post enc Try.prog Try.f5 false true false false) := by
  refine returnsInHanded_of_change (C := Try.checked) Try.own started (by kernel_rfl) Try.func5
    (ChangeSpec.witness6 (enc := enc) (C := Try.checked) false ⟨#[], #[.slice none 0 0, .slice none 0 0], []⟩ 8 (by kernel_rfl) (by kernel_rfl) (by kernel_rfl) (by kernel_rfl)) ?_
  intro W base args ds gs before hval0 hW hcnd _
  have hval : ∀ (j : Nat) t v, Try.f5.params[j]? = some t → args[j]? = some v → Value.okWide Try.prog W .any base t v := hval0
  have hW' := hW
  obtain ⟨p, q, hA0, hV, rfl, hfz, hnd⟩ := hW
  have hA : DataW.TrodAll enc Try.prog W 0 (fun _ => true) true Try.f5.params.toList args.toList ds p := hA0
  rw [Try.params5] at hA hval
  obtain ⟨v0, v1, d0, d1, p0, p1, rfl, rfl, rfl, t0, t1⟩ := trodAll_two hA
  obtain ⟨rfl, rfl⟩ := trodVars_none hV
  have hv0 := hval 0 40 v0 rfl rfl
  have hv1 := hval 1 40 v1 rfl rfl
  clear hval hval0
  obtain ⟨H0, μ0, s0, X0, n0, e0, r0, l0⟩ := arg_rns (ks := [.str, .i64, .i64, .f32s]) Try.underlying40 (by kernel_rfl) (by decide) el26 hv0 t0 (fun i B h => by simp at h) (HR.nil W)
  obtain ⟨H1, μ1, s1, X1, n1, e1, r1, l1⟩ := arg_rns (ks := [.str, .i64, .i64, .f32s]) Try.underlying40 (by kernel_rfl) (by decide) el26 hv1 t1 e0.no e0.hr
  obtain ⟨H', hlaw⟩ := fnExactSameSheets_fn s0 X0 n0 s1 X1 n1 H1 (e1.rn l0) l1
  refine (law_calls hlaw e1.hr (VRs.cons (e1.vr _ _ r0) (VRs.cons r1 (VRs.nil _ _))) e1.no (Try.call5 _ W)).mono fun e W' ⟨he, hb⟩ => ⟨_, he, ?_⟩
  exact law_post Try.laidOut (by rw [Try.params5]; exact of_decide_eq_true (by kernel_rfl)) rfl rfl rfl Try.underlying4 hW' hb

theorem fnExactSameSheets_holds : Rows.FnExactSameSheetsSaid :=
  OpenClaim.holds_of_wide 5 Try.f5 rfl rfl rfl rfl rfl rfl rfl ⟨rfl, rfl, rfl, rfl, rfl⟩ rfl rfl rfl rfl rfl (by kernel_rfl) Try.func5 (by kernel_rfl)
    (of_decide_eq_true (by kernel_rfl)) (by unfold Func.isWrapper; first | (rw [if_pos (by decide +kernel)]; kernel_rfl) | (rw [if_neg (by decide +kernel)]; exact ⟨rfl, rfl⟩))
    (fun os started H enc _ => fnExactSameSheets_lifted os started H enc)

end Go.Proofs.Ythdmkdkbfhoahaa
