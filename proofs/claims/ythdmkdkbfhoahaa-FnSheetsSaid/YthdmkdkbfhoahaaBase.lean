/- Functions without a body, and such as are met by hand. -/
import Derived.Tactics2
import Derived.Laws.Externs
import Derived.Laws.Entries
import Derived.Test.YthdmkdkbfhoahaaTy
set_option maxRecDepth 100000
set_option maxHeartbeats 4000000
set_option linter.unusedSimpArgs false
set_option linter.unusedVariables false
namespace Go.Proofs.Ythdmkdkbfhoahaa.AM
open Go.Proofs
theorem fnBits : Extern.findNext Try.f97 = none := by kernel_rfl
theorem feBits : Extern.find Try.f97 = some Extern.MathFloatBits.float64bits := by kernel_rfl
theorem fnFrom : Extern.findNext Try.f101 = none := by kernel_rfl
theorem feFrom : Extern.find Try.f101 = some Extern.MathFloatBits.float64frombits := by kernel_rfl
@[simp] theorem bits_run (b : Nat) (w : World) : (callFunc 97 #[.float .f64 b]).run Try.prog w = .ok (.value (.int .u64 b)) w := by
  rw [run_callFunc_extern Try.func97 (by kernel_rfl) rfl fnBits feBits]; rfl
@[simp] theorem frombits_run (n : Int) (w : World) : (callFunc 101 #[.int .u64 n]).run Try.prog w = .ok (.value (.float .f64 n.toNat)) w := by
  rw [run_callFunc_extern Try.func101 (by kernel_rfl) rfl fnFrom feFrom]; rfl

theorem andNot_sign (b : Nat) : Go.bits .andNot .u64 (b : Int) 9223372036854775808 = ((b % 9223372036854775808 : Nat) : Int) := by
  show IntKind.u64.wrap ((BitVec.ofInt 64 (b : Int) &&& ~~~BitVec.ofInt 64 (9223372036854775808 : Int)).toNat : Int) = _
  have e : (~~~BitVec.ofInt 64 (9223372036854775808 : Int)).toNat = 2 ^ 63 - 1 := by decide
  have hu : ∀ n : Int, IntKind.u64.wrap n = n % 18446744073709551616 := by
    intro n; simp [IntKind.wrap, IntKind.bits, IntKind.signed]
  rw [BitVec.toNat_and, e, Nat.and_two_pow_sub_one_eq_mod, hu]
  have h : (BitVec.ofInt 64 (b : Int)).toNat = b % 2 ^ 64 := by simp [BitVec.toNat_ofInt]
  rw [h]; omega
theorem fabs_canon (b : Nat) : fabs (canon .f64 b) = canon .f64 (b % 9223372036854775808) := by
  unfold fabs
  cases h : isNan .f64 b with
  | false => rw [canon_num h]
  | true =>
    rw [canon_nan h]
    have : isNan .f64 (b % 9223372036854775808) = true := by
      rw [isNan_f64] at h ⊢
      simp only [decide_eq_true_eq] at h ⊢; omega
    rw [canon_nan this]; rfl
theorem abs_ok (x : Nat) (H : Heap) : FnOk Try.prog 100 [.flt .f64 x] H (.flt .f64 (fabs x)) H := by
  intro μ w cargs hr ha
  obtain ⟨b, rfl, rfl⟩ : ∃ b, cargs = #[.float .f64 b] ∧ canon .f64 b = x := by
    obtain ⟨h1, h2⟩ := ha
    match cargs, h1 with
    | ⟨[v]⟩, _ =>
      have := h2 0 _ v rfl rfl
      cases this
      exact ⟨_, rfl, rfl⟩
  refine .inl ⟨Try.call100 _ w, Calls.mono (R := fun e w' => e = .returned (.float .f64 (b % 9223372036854775808)) ∧ w' = w) ?_ ?_⟩
  · go_enter Try.func100, Try.ntmps100
    go_wp2
    go_ret
    exact ⟨by rw [andNot_sign]; rfl, rfl⟩
  · rintro e w' ⟨rfl, rfl⟩
    refine ⟨_, μ, rfl, ?_, hr, Adv.refl _ _ _⟩
    rw [fabs_canon]
    exact .flt _ _


def Abs_F : DFn := fun args L =>
  match args with
  | [.flt .f64 x] => .leaf (.flt .f64 (fabs x), L)
  | _ => .fail
theorem Abs_Fok : COk Try.prog 100 Abs_F true := by
  refine cok_pure fun F L H args r L' hs ha hr => ?_
  unfold Abs_F at hr
  split at hr
  · simp only [Tree.run, Option.some.injEq, Prod.mk.injEq] at hr
    obtain ⟨rfl, rfl⟩ := hr
    exact ⟨rfl, trivial, abs_ok _ _⟩
  · cases hr
--IF Bits32_F
theorem fnBits32 : Extern.findNext Try.f84 = none := by kernel_rfl
theorem feBits32 : Extern.find Try.f84 = some Extern.MathFloatBits.float32bits := by kernel_rfl
theorem bits32_ok (x : Nat) (hx : isNan .f32 x = false) (H : Heap) : FnOk Try.prog 84 [.flt .f32 x] H (.int .u32 x) H := by
  intro μ w cargs hr ha
  obtain ⟨b, rfl, rfl⟩ : ∃ b, cargs = #[.float .f32 b] ∧ canon .f32 b = x := by
    obtain ⟨h1, h2⟩ := ha
    match cargs, h1 with
    | ⟨[v]⟩, _ =>
      have := h2 0 _ v rfl rfl
      cases this
      exact ⟨_, rfl, rfl⟩
  have hb : isNan .f32 b = false := by
    cases h : isNan .f32 b with
    | false => rfl
    | true =>
      rw [canon_nan h] at hx
      have q : isNan .f32 (qnan .f32) = true := by kernel_rfl
      rw [q] at hx; cases hx
  rw [canon_num hb]
  refine .inr ?_
  have run := run_callFunc_extern Try.func84 (by kernel_rfl) rfl fnBits32 feBits32 #[.float .f32 b] w
  exact ⟨_, w, μ, run, .int .u32 _, hr, Adv.refl _ _ _⟩
def Bits32_F : DFn := fun args L =>
  match args with
  | [.flt .f32 x] => .grd (!isNan .f32 x) (.leaf (.int .u32 ((x : Nat) : Int), L))
  | _ => .fail
theorem Bits32_Fok : COk Try.prog 84 Bits32_F true := by
  refine cok_pure fun F L H args r L' hs ha hr => ?_
  unfold Bits32_F at hr
  split at hr
  · obtain ⟨hg, hr⟩ := grd_run hr
    simp only [Bool.not_eq_true'] at hg
    simp only [Tree.run, Option.some.injEq, Prod.mk.injEq] at hr
    obtain ⟨rfl, rfl⟩ := hr
    exact ⟨rfl, trivial, bits32_ok _ hg _⟩
  · cases hr
--IF Bits64_F
theorem fnBits64 : Extern.findNext Try.f97 = none := by kernel_rfl
theorem feBits64 : Extern.find Try.f97 = some Extern.MathFloatBits.float64bits := by kernel_rfl
theorem bits64_ok (x : Nat) (hx : isNan .f64 x = false) (H : Heap) : FnOk Try.prog 97 [.flt .f64 x] H (.int .u64 x) H := by
  intro μ w cargs hr ha
  obtain ⟨b, rfl, rfl⟩ : ∃ b, cargs = #[.float .f64 b] ∧ canon .f64 b = x := by
    obtain ⟨h1, h2⟩ := ha
    match cargs, h1 with
    | ⟨[v]⟩, _ =>
      have := h2 0 _ v rfl rfl
      cases this
      exact ⟨_, rfl, rfl⟩
  have hb : isNan .f64 b = false := by
    cases h : isNan .f64 b with
    | false => rfl
    | true =>
      rw [canon_nan h] at hx
      have q : isNan .f64 (qnan .f64) = true := by kernel_rfl
      rw [q] at hx; cases hx
  rw [canon_num hb]
  refine .inr ?_
  have run := run_callFunc_extern Try.func97 (by kernel_rfl) rfl fnBits64 feBits64 #[.float .f64 b] w
  exact ⟨_, w, μ, run, .int .u64 _, hr, Adv.refl _ _ _⟩
def Bits64_F : DFn := fun args L =>
  match args with
  | [.flt .f64 x] => .grd (!isNan .f64 x) (.leaf (.int .u64 ((x : Nat) : Int), L))
  | _ => .fail
theorem Bits64_Fok : COk Try.prog 97 Bits64_F true := by
  refine cok_pure fun F L H args r L' hs ha hr => ?_
  unfold Bits64_F at hr
  split at hr
  · obtain ⟨hg, hr⟩ := grd_run hr
    simp only [Bool.not_eq_true'] at hg
    simp only [Tree.run, Option.some.injEq, Prod.mk.injEq] at hr
    obtain ⟨rfl, rfl⟩ := hr
    exact ⟨rfl, trivial, bits64_ok _ hg _⟩
  · cases hr
--IF From32_F
theorem fnFrom32 : Extern.findNext Try.f71 = none := by kernel_rfl
theorem feFrom32 : Extern.find Try.f71 = some Extern.MathFloatBits.float32frombits := by kernel_rfl
theorem from32_ok (n : Int) (H : Heap) : FnOk Try.prog 71 [.int .u32 n] H (.flt .f32 (canon .f32 n.toNat)) H := by
  intro μ w cargs hr ha
  obtain rfl : cargs = #[.int .u32 n] := by
    obtain ⟨h1, h2⟩ := ha
    match cargs, h1 with
    | ⟨[v]⟩, _ =>
      have := h2 0 _ v rfl rfl
      cases this
      rfl
  refine .inr ?_
  have run := run_callFunc_extern Try.func71 (by kernel_rfl) rfl fnFrom32 feFrom32 #[.int .u32 n] w
  exact ⟨_, w, μ, run, .flt .f32 _, hr, Adv.refl _ _ _⟩
def From32_F : DFn := fun args L =>
  match args with
  | [.int .u32 n] => .leaf (.flt .f32 (canon .f32 (Int.toNat n)), L)
  | _ => .fail
theorem From32_Fok : COk Try.prog 71 From32_F true := by
  refine cok_pure fun F L H args r L' hs ha hr => ?_
  unfold From32_F at hr
  split at hr
  · simp only [Tree.run, Option.some.injEq, Prod.mk.injEq] at hr
    obtain ⟨rfl, rfl⟩ := hr
    exact ⟨rfl, trivial, from32_ok _ _⟩
  · cases hr
end Go.Proofs.Ythdmkdkbfhoahaa.AM
