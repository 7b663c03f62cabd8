/-
  The law FnExactStoreSheet returns true, whatever the input, and the input reads as it did.
-/
import Derived.Test.YthdmkdkbfhoahaaS2
import Derived.Test.YthdmkdkbfhoahaaQStoreSheet
set_option linter.unusedSimpArgs false
set_option linter.unusedVariables false
set_option maxRecDepth 100000
namespace Go.Proofs.Ythdmkdkbfhoahaa
open Go.ChangeShapes Go.WideShapes Go.ChangeAt Go.RowKit
open Go.Proofs.Ythdmkdkbfhoahaa.AM

theorem Try.own : ownKnob Try.prog.godebug = none := by kernel_rfl
theorem Try.laidOut : laidOutB Try.prog = true := by kernel_rfl

theorem fnExactStoreSheet_fn (x0 : ByteArray) (x1 : Int) (x2 : Int) (s3 : AV) (H : Heap) (b0 : x0.size < 9223372036854775808) (b1 : -9223372036854775808 ≤ x1 ∧ x1 < 9223372036854775808) (b2 : -9223372036854775808 ≤ x2 ∧ x2 < 9223372036854775808) (hs3 : SlA cF H s3) : ∃ H', FnOk Try.prog 3 [.agg [.str x0, .int .i64 x1, .int .i64 x2, s3]] H (.bool true) H' := by
  obtain ⟨n3, hn3, h3⟩ := hs3
  have m3 := slen_max hn3
  by_cases hw : WS H
  case neg => exact ⟨H, FnOk.ws fun h => absurd h hw⟩
  let F : Fr := ⟨H, [], List.nodup_nil, by simp, hw, fun k => (([s3] : List AV)[k]?).getD .top⟩
  by_cases g3 : n3 ≤ maxN
  case neg =>
    obtain ⟨H', h, _⟩ := laws_FnExactStoreSheet_len_fn x0 x1 x2 n3 F rfl (st_nil rfl) ⟨⟨trivial, trivial, trivial, hslc_ok rfl (slen_lens hn3), trivial⟩, trivial⟩ (store_lawL x0 x1 x2 n3 b0 b1 b2 m3 (by omega))
    exact ⟨H', h⟩
  obtain ⟨x3, l3, k3, w3⟩ := h3 g3
  obtain ⟨H', h, _⟩ := laws_FnExactStoreSheet_fn x0 x1 x2 x3 F rfl (st_nil rfl) ⟨⟨trivial, trivial, trivial, bslc_ok rfl k3, trivial⟩, trivial⟩ (store_law x0 x1 x2 x3 b0 b1 b2 (by rw [l3]; exact g3) w3)
  exact ⟨H', h⟩

theorem fnExactStoreSheet_lifted (os : Os) (started : os.Started) (H : Type) (enc : TypeId × Value → H) :
    ReturnsInHanded {} Try.checked os 3 .any (Rows.fnExactStoreSheetSpec.pre6 enc Try.prog Try.f3 Rows.fnExactStoreSheetRow.domain false) (Rows.fnExactStoreSheetSpec.post enc Try.prog Try.f3 false true false false) := by
  refine returnsInHanded_of_change (C := Try.checked) Try.own started (by kernel_rfl) Try.func3
    (ChangeSpec.witness6 (enc := enc) (C := Try.checked) false ⟨#[], #[.agg #[.string ByteArray.empty, .int .i64 0, .int .i64 0, .slice none 0 0]], []⟩ 8 (by kernel_rfl) (by kernel_rfl) (by kernel_rfl) (by kernel_rfl)) ?_
  intro W base args ds gs before hval0 hW hcnd _
  have hval : ∀ (j : Nat) t v, Try.f3.params[j]? = some t → args[j]? = some v → Value.okWide Try.prog W .any base t v := hval0
  have hW' := hW
  obtain ⟨p, q, hA0, hV, rfl, hfz, hnd⟩ := hW
  have hA : DataW.TrodAll enc Try.prog W 0 (fun _ => true) true Try.f3.params.toList args.toList ds p := hA0
  rw [Try.params3] at hA hval
  obtain ⟨v0, d0, rfl, rfl, t0⟩ := trodAll_one hA
  obtain ⟨rfl, rfl⟩ := trodVars_none hV
  have hv0 := hval 0 26 v0 rfl rfl
  clear hval hval0
  obtain ⟨vs0, rfl, z0, cs0⟩ := cells_struct (ts := [9, 2, 2, 22]) Try.underlying26 (by kernel_rfl) (by kernel_rfl) hv0
  obtain ⟨u0, u1, u2, u3, rfl⟩ := list4 z0
  obtain ⟨fn0, fy0, ft0⟩ := of_trod t0
  have c0 := cs0 0 u0 9 rfl rfl
  have c1 := cs0 1 u1 2 rfl rfl
  have c2 := cs0 2 u2 2 rfl rfl
  have c3 := cs0 3 u3 22 rfl rfl
  obtain ⟨fn0_0, fy0_0, ft0_0⟩ := sub_field Try.underlying26 ft0 1 24 1 3 (by kernel_rfl) (by kernel_rfl) [u1, u2, u3] rfl
  obtain ⟨fn0_1, fy0_1, ft0_1⟩ := sub_field Try.underlying24 ft0_0 2 22 2 1 (by kernel_rfl) (by kernel_rfl) [u3] rfl
  obtain ⟨x0, rfl, b0⟩ := leaf_str Try.underlying9 c0
  obtain ⟨x1, rfl, b1⟩ := leaf_int Try.underlying2 c1
  obtain ⟨x2, rfl, b2⟩ := leaf_int Try.underlying2 c2
  obtain ⟨H3, μ3, s3, e3, r3, l3⟩ := leaf_f32s Try.underlying22 Try.underlying83 (by kernel_rfl) c3 ft0_1 (fun i B h => by simp at h) (HR.nil W)
  obtain ⟨H', hlaw⟩ := fnExactStoreSheet_fn x0 x1 x2 s3 H3 b0 (i64_has b1) (i64_has b2) l3
  refine (law_calls hlaw e3.hr (VRs.cons (VR.ofs (VRs.cons (.str x0) (VRs.cons (.int .i64 x1) (VRs.cons (.int .i64 x2) (VRs.cons r3 (VRs.nil _ _)))))) (VRs.nil _ _)) e3.no (Try.call3 _ W)).mono fun e W' ⟨he, hb⟩ => ⟨_, he, ?_⟩
  exact law_post Try.laidOut (by rw [Try.params3]; exact of_decide_eq_true (by kernel_rfl)) rfl rfl rfl Try.underlying4 hW' hb

theorem fnExactStoreSheet_holds : Rows.FnExactStoreSheetSaid :=
  OpenClaim.holds_of_wide 3 Try.f3 rfl rfl rfl rfl rfl rfl rfl ⟨rfl, rfl, rfl, rfl, rfl⟩ rfl rfl rfl rfl rfl (by kernel_rfl) Try.func3 (by kernel_rfl)
    (of_decide_eq_true (by kernel_rfl)) (by unfold Func.isWrapper; first | (rw [if_pos (by decide +kernel)]; kernel_rfl) | (rw [if_neg (by decide +kernel)]; exact ⟨rfl, rfl⟩))
    (fun os started H enc _ => fnExactStoreSheet_lifted os started H enc)

end Go.Proofs.Ythdmkdkbfhoahaa
