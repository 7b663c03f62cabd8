/- Functions without a body, and such as are met by hand. -/
import Derived.Tactics2
import Derived.Laws.Externs
import Derived.Laws.Entries
import Derived.Test.YtjadfgeemfdbmaaTy
import Derived.Test.YtjadfgeemfdbmaaV0
set_option maxRecDepth 100000
set_option maxHeartbeats 4000000
set_option linter.unusedSimpArgs false
set_option linter.unusedVariables false
namespace Go.Proofs.Ytjadfgeemfdbmaa.AM
open Go.Proofs
theorem fnBits : Extern.findNext Try.f153 = none := by kernel_rfl
theorem feBits : Extern.find Try.f153 = some Extern.MathFloatBits.float64bits := by kernel_rfl
theorem fnFrom : Extern.findNext Try.f152 = none := by kernel_rfl
theorem feFrom : Extern.find Try.f152 = some Extern.MathFloatBits.float64frombits := by kernel_rfl
@[simp] theorem bits_run (b : Nat) (w : World) : (callFunc 153 #[.float .f64 b]).run Try.prog w = .ok (.value (.int .u64 b)) w := by
  rw [run_callFunc_extern Try.func153 (by kernel_rfl) rfl fnBits feBits]; rfl
@[simp] theorem frombits_run (n : Int) (w : World) : (callFunc 152 #[.int .u64 n]).run Try.prog w = .ok (.value (.float .f64 n.toNat)) w := by
  rw [run_callFunc_extern Try.func152 (by kernel_rfl) rfl fnFrom feFrom]; rfl

theorem andNot_sign (b : Nat) : Go.bits .andNot .u64 (b : Int) 9223372036854775808 = ((b % 9223372036854775808 : Nat) : Int) := by
  show IntKind.u64.wrap ((BitVec.ofInt 64 (b : Int) &&& ~~~BitVec.ofInt 64 (9223372036854775808 : Int)).toNat : Int) = _
  have e : (~~~BitVec.ofInt 64 (9223372036854775808 : Int)).toNat = 2 ^ 63 - 1 := by decide
  have hu : ∀ n : Int, IntKind.u64.wrap n = n % 18446744073709551616 := by
    intro n; simp [IntKind.wrap, IntKind.bits, IntKind.signed]
  rw [BitVec.toNat_and, e, Nat.and_two_pow_sub_one_eq_mod, hu]
  have h : (BitVec.ofInt 64 (b : Int)).toNat = b % 2 ^ 64 := by simp [BitVec.toNat_ofInt]
  rw [h]; omega
theorem fabs_canon (b : Nat) : fabs (canon .f64 b) = canon .f64 (b % 9223372036854775808) := by
  unfold fabs
  cases h : isNan .f64 b with
  | false => rw [canon_num h]
  | true =>
    rw [canon_nan h]
    have : isNan .f64 (b % 9223372036854775808) = true := by
      rw [isNan_f64] at h ⊢
      simp only [decide_eq_true_eq] at h ⊢; omega
    rw [canon_nan this]; rfl
theorem abs_ok (x : Nat) (H : Heap) : FnOk Try.prog 104 [.flt .f64 x] H (.flt .f64 (fabs x)) H := by
  intro μ w cargs hr ha
  obtain ⟨b, rfl, rfl⟩ : ∃ b, cargs = #[.float .f64 b] ∧ canon .f64 b = x := by
    obtain ⟨h1, h2⟩ := ha
    match cargs, h1 with
    | ⟨[v]⟩, _ =>
      have := h2 0 _ v rfl rfl
      cases this
      exact ⟨_, rfl, rfl⟩
  refine .inl ⟨Try.call104 _ w, Calls.mono (R := fun e w' => e = .returned (.float .f64 (b % 9223372036854775808)) ∧ w' = w) ?_ ?_⟩
  · go_enter Try.func104, Try.ntmps104
    go_wp2
    go_ret
    exact ⟨by rw [andNot_sign]; rfl, rfl⟩
  · rintro e w' ⟨rfl, rfl⟩
    refine ⟨_, μ, rfl, ?_, hr, Adv.refl _ _ _⟩
    rw [fabs_canon]
    exact .flt _ _


def Abs_F : DFn := fun args L =>
  match args with
  | [.flt .f64 x] => .leaf (.flt .f64 (fabs x), L)
  | _ => .fail
theorem Abs_Fok : COk Try.prog 104 Abs_F true := by
  refine cok_pure fun F L H args r L' hs ha hr => ?_
  unfold Abs_F at hr
  split at hr
  · simp only [Tree.run, Option.some.injEq, Prod.mk.injEq] at hr
    obtain ⟨rfl, rfl⟩ := hr
    exact ⟨rfl, trivial, abs_ok _ _⟩
  · cases hr
--IF Perm_F
theorem below_hr {H : Heap} {μ : Mem} {w w' : World} (hr : HR H μ w) (hb : RowKit.Below w.heap.size w w') : HR H μ w' ∧ Adv H μ w H μ w' :=
  ⟨⟨fun id B h => by
      obtain ⟨cs, e, fr, h1, h2⟩ := hr.cells id B h
      exact ⟨cs, e, fr, (hb.block _ (Array.getElem?_eq_some_iff.1 h1).1).trans h1, h2⟩, hr.apart, hr.flat⟩,
   ⟨hb.size, hb.os, hb.tape, hb.output, fun b hlt _ => hb.block b hlt, fun id B h ho => .inr ⟨id, B, h, ho, rfl⟩, fun _ B h => ⟨B, h, rfl, rfl, Nat.le_refl _, fun _ => ⟨rfl, rfl, rfl⟩⟩⟩⟩
theorem perm_ok {H : Heap} {av : AV} {xs : List Int} (hR : Reads H av (.i64 xs)) (h0 : 0 < xs.length) (h1 : xs.length ≤ 4096) : FnOk Try.prog 154 [av] H (.bool (PM.permB xs)) H := by
  intro μ w cargs hr ha
  rcases hR with ⟨_, hz⟩ | ⟨p, B, rfl, hB, hv, hsz, hle, hcs, _⟩
  · have hz' : xs.length = 0 := hz
    omega
  simp only [Row.len, Row.cells] at ha hle hcs
  obtain ⟨sv, rfl, hsv⟩ : ∃ sv, cargs = #[sv] ∧ VR H μ (.slc p xs.length) sv := by
    obtain ⟨k1, k2⟩ := ha
    match cargs, k1 with
    | ⟨[v]⟩, _ => exact ⟨v, rfl, k2 0 _ v rfl rfl⟩
  cases hsv with
  | slc r n v B' hB' hv' hok =>
  rw [hB] at hB'
  cases hB'
  obtain ⟨_, hs⟩ := hok hv
  rcases hs with ⟨c, rfl, _⟩ | ⟨hn, _⟩
  case inr => omega
  obtain ⟨cs, e, fr, g1, g2, g3, g4, _⟩ := hr.cells p.id B hB
  have hc : ∀ j, j < xs.length → w.cell? ⟨μ.blk p.id, μ.off p.id + p.off + j, none⟩ = some (.int .i64 (xs[j]?.getD 0)) := fun j hj => by
    have e1 : (((B.cells.drop p.off).take xs.length))[j]? = some (.int .i64 xs[j]) := by
      rw [hcs, List.getElem?_map, List.getElem?_eq_getElem hj]; rfl
    rw [List.getElem?_take, if_pos hj, List.getElem?_drop] at e1
    obtain ⟨v, q1, q2⟩ := g4 _ _ e1
    obtain rfl := q2.int_inv
    rw [← Nat.add_assoc] at q1
    simp only [World.cell?, g1, List.getElem?_eq_getElem hj, Option.getD_some]
    simpa using q1
  refine .inl ⟨Try.call154 _ w, Calls.mono (PM.perm_calls (μ.blk p.id) (μ.off p.id + p.off) c xs w h0 h1 (Array.getElem?_eq_some_iff.1 g1).1 hc) ?_⟩
  rintro e w' ⟨rfl, hb⟩
  exact ⟨_, μ, rfl, .bool _, below_hr hr hb⟩
def Perm_F : DFn := fun args L =>
  match args with
  | [v] => optT (rowI64 L v) fun xs => .grd (decide (0 < xs.length) && decide (xs.length ≤ 4096)) (.leaf (.bool (PM.permB xs), L))
  | _ => .fail
theorem Perm_Fok : COk Try.prog 154 Perm_F true := by
  refine cok_pure fun F L H args r L' hs ha hr => ?_
  unfold Perm_F at hr
  split at hr
  · obtain ⟨xs, hx, hr⟩ := optT_run hr
    obtain ⟨hg, hr⟩ := grd_run hr
    simp only [Bool.and_eq_true, decide_eq_true_eq] at hg
    simp only [Tree.run, Option.some.injEq, Prod.mk.injEq] at hr
    obtain ⟨rfl, rfl⟩ := hr
    exact ⟨rfl, trivial, perm_ok (rowI64_ok hs (DVs.okAt ha 0 rfl) hx) hg.1 hg.2⟩
  · cases hr
end Go.Proofs.Ytjadfgeemfdbmaa.AM
