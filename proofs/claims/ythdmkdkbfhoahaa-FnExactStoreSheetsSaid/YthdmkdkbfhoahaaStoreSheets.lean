/-
  The law FnExactStoreSheets returns true, whatever the input, and the input reads as it did.
-/
import Derived.Test.YthdmkdkbfhoahaaS3
import Derived.Test.YthdmkdkbfhoahaaQStoreSheets
set_option linter.unusedSimpArgs false
set_option linter.unusedVariables false
set_option maxRecDepth 100000
namespace Go.Proofs.Ythdmkdkbfhoahaa
open Go.ChangeShapes Go.WideShapes Go.ChangeAt Go.RowKit
open Go.Proofs.Ythdmkdkbfhoahaa.AM

theorem Try.own : ownKnob Try.prog.godebug = none := by kernel_rfl
theorem Try.laidOut : laidOutB Try.prog = true := by kernel_rfl

theorem fnExactStoreSheets_fn (s0 : AV) (X0 : Nat → AV) (n0 : Nat) (H : Heap) (hs0 : RnA [.str, .i64, .i64, .f32s] H s0 X0 n0) : ∃ H', FnOk Try.prog 6 [s0] H (.bool true) H' := by
  obtain ⟨x0_0, lx0_0, hx0_0⟩ := hs0.strs (c := 0) rfl
  obtain ⟨x0_1, lx0_1, hx0_1⟩ := hs0.ints (c := 1) rfl
  obtain ⟨x0_2, lx0_2, hx0_2⟩ := hs0.ints (c := 2) rfl
  obtain ⟨ns0_3, ln0_3, hn0_3, hx0_3⟩ := hs0.lens (c := 3) rfl
  have hm0_3 : ∀ i, i < n0 → nth ns0_3 i < 9223372036854775808 := fun i hi => slen_max (hn0_3 i hi)
  by_cases hw : WS H
  case neg => exact ⟨H, FnOk.ws fun h => absurd h hw⟩
  let F : Fr := ⟨H, [], by simp, hw, fun k => (([s0] : List AV)[k]?).getD (farX 4 0 X0 k), fun _ _ _ => 0⟩
  have hp0 : Pls F.ρ ([.str, .i64, .i64, .f32s] : List LK).length 0 s0 X0 := pls1 (by simp) rfl (by decide)
  by_cases g0_3 : ∀ i, i < n0 → nth ns0_3 i ≤ maxN
  case neg =>
    obtain ⟨F', H', _, h, _⟩ := laws_FnExactStoreSheets_len_fn x0_0 x0_1 x0_2 ns0_3 F (st_nil rfl) ⟨(hs0.rns (F := F) rfl rfl hp0 (cols := [.pl (.str x0_0), .pl (.i64 x0_1), .pl (.i64 x0_2), .ln ns0_3]) rfl (cols4 ⟨lx0_0, fun i hi => (hx0_0 i hi).1⟩ ⟨lx0_1, fun i hi => (hx0_1 i hi).1⟩ ⟨lx0_2, fun i hi => (hx0_2 i hi).1⟩ ⟨ln0_3, hn0_3⟩) _), trivial⟩ (stores_lawL x0_0 x0_1 x0_2 ns0_3 hs0.lt lx0_0 (fun i hi => (hx0_0 i hi).2) lx0_1 (fun i hi => (hx0_1 i hi).2) lx0_2 (fun i hi => (hx0_2 i hi).2) ln0_3 hm0_3 (exceed g0_3))
    exact ⟨H', h⟩
  obtain ⟨y0_3, ly0_3, hy0_3⟩ := hx0_3 g0_3
  obtain ⟨F', H', _, h, _⟩ := laws_FnExactStoreSheets_fn x0_0 x0_1 x0_2 y0_3 F (st_nil rfl) ⟨(hs0.rns (F := F) rfl rfl hp0 (cols := [.pl (.str x0_0), .pl (.i64 x0_1), .pl (.i64 x0_2), .sl (.f32 y0_3)]) rfl (cols4 ⟨lx0_0, fun i hi => (hx0_0 i hi).1⟩ ⟨lx0_1, fun i hi => (hx0_1 i hi).1⟩ ⟨lx0_2, fun i hi => (hx0_2 i hi).1⟩ ⟨ly0_3, fun i hi => (hy0_3 i hi).2.1⟩) _), trivial⟩ (stores_law x0_0 x0_1 x0_2 y0_3 hs0.lt lx0_0 (fun i hi => (hx0_0 i hi).2) lx0_1 (fun i hi => (hx0_1 i hi).2) lx0_2 (fun i hi => (hx0_2 i hi).2) ly0_3 (fun i hi => ⟨(hy0_3 i hi).1, (hy0_3 i hi).2.2⟩))
  exact ⟨H', h⟩

theorem el26 {H : Type} {enc : TypeId × Value → H} {W : World} : El enc Try.prog W 26 [.str, .i64, .i64, .f32s] := by
  intro n cs y h hl c k hc
  obtain ⟨u0, u1, u2, u3, rfl⟩ := list4 hl
  obtain ⟨_, _, ft0⟩ := sub_field Try.underlying26 h 0 9 0 1 (by kernel_rfl) (by kernel_rfl) [u0] rfl
  obtain ⟨_, _, ft1⟩ := sub_field Try.underlying26 h 1 24 1 3 (by kernel_rfl) (by kernel_rfl) [u1, u2, u3] rfl
  obtain ⟨_, _, ft2⟩ := sub_field Try.underlying24 ft1 0 2 0 1 (by kernel_rfl) (by kernel_rfl) [u1] rfl
  obtain ⟨_, _, ft3⟩ := sub_field Try.underlying24 ft1 1 2 1 1 (by kernel_rfl) (by kernel_rfl) [u2] rfl
  obtain ⟨_, _, ft4⟩ := sub_field Try.underlying24 ft1 2 22 2 1 (by kernel_rfl) (by kernel_rfl) [u3] rfl
  match c with
  | 0 => cases hc; exact ⟨u0, rfl, cellK_str Try.underlying9 ft0⟩
  | 1 => cases hc; exact ⟨u1, rfl, cellK_i64 Try.underlying2 ft2⟩
  | 2 => cases hc; exact ⟨u2, rfl, cellK_i64 Try.underlying2 ft3⟩
  | 3 => cases hc; exact ⟨u3, rfl, cellK_f32s Try.underlying22 Try.underlying83 (by kernel_rfl) ft4⟩
  | c + 4 => simp at hc

theorem fnExactStoreSheets_lifted (os : Os) (started : os.Started) (H : Type) (enc : TypeId × Value → H) :
    ReturnsInHanded {} Try.checked os 6 .any (Rows.fnExactStoreSheetsSpec.pre6 enc Try.prog Try.f6 Rows.fnExactStoreSheetsRow.domain false) (Rows.fnExactStoreSheetsSpec.post enc Try.prog Try.f6 false true false false) := by
  refine returnsInHanded_of_change (C := Try.checked) Try.own started (by kernel_rfl) Try.func6
    (ChangeSpec.witness6 (enc := enc) (C := Try.checked) false ⟨#[], #[.slice none 0 0], []⟩ 8 (by kernel_rfl) (by kernel_rfl) (by kernel_rfl) (by kernel_rfl)) ?_
  intro W base args ds gs before hval0 hW hcnd _
  have hval : ∀ (j : Nat) t v, Try.f6.params[j]? = some t → args[j]? = some v → Value.okWide Try.prog W .any base t v := hval0
  have hW' := hW
  obtain ⟨p, q, hA0, hV, rfl, hfz, hnd⟩ := hW
  have hA : DataW.TrodAll enc Try.prog W 0 (fun _ => true) true Try.f6.params.toList args.toList ds p := hA0
  rw [Try.params6] at hA hval
  obtain ⟨v0, d0, rfl, rfl, t0⟩ := trodAll_one hA
  obtain ⟨rfl, rfl⟩ := trodVars_none hV
  have hv0 := hval 0 40 v0 rfl rfl
  clear hval hval0
  obtain ⟨H0, μ0, s0, X0, n0, e0, r0, l0⟩ := arg_rns (ks := [.str, .i64, .i64, .f32s]) Try.underlying40 (by kernel_rfl) (by decide) el26 hv0 t0 (fun i B h => by simp at h) (HR.nil W)
  obtain ⟨H', hlaw⟩ := fnExactStoreSheets_fn s0 X0 n0 H0 l0
  refine (law_calls hlaw e0.hr (VRs.cons r0 (VRs.nil _ _)) e0.no (Try.call6 _ W)).mono fun e W' ⟨he, hb⟩ => ⟨_, he, ?_⟩
  exact law_post Try.laidOut (by rw [Try.params6]; exact of_decide_eq_true (by kernel_rfl)) rfl rfl rfl Try.underlying4 hW' hb

theorem fnExactStoreSheets_holds : Rows.FnExactStoreSheetsSaid :=
  OpenClaim.holds_of_wide 6 Try.f6 rfl rfl rfl rfl rfl rfl rfl ⟨rfl, rfl, rfl, rfl, rfl⟩ rfl rfl rfl rfl rfl (by kernel_rfl) Try.func6 (by kernel_rfl)
    (of_decide_eq_true (by kernel_rfl)) (by unfold Func.isWrapper; first | (rw [if_pos (by decide +kernel)]; kernel_rfl) | (rw [if_neg (by decide +kernel)]; exact ⟨rfl, rfl⟩))
    (fun os started H enc _ => fnExactStoreSheets_lifted os started H enc)

end Go.Proofs.Ythdmkdkbfhoahaa
