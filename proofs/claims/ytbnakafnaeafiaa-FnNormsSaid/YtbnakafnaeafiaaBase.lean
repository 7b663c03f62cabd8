/- Functions without a body, and such as are met by hand. -/
import Derived.Tactics2
import Derived.Laws.Externs
import Derived.Laws.Entries
import Derived.Test.YtbnakafnaeafiaaTy
set_option maxRecDepth 100000
set_option maxHeartbeats 4000000
set_option linter.unusedSimpArgs false
set_option linter.unusedVariables false
namespace Go.Proofs.Ytbnakafnaeafiaa.AM
open Go.Proofs
theorem fnBits : Extern.findNext Try.f65 = none := by kernel_rfl
theorem feBits : Extern.find Try.f65 = some Extern.MathFloatBits.float64bits := by kernel_rfl
theorem fnFrom : Extern.findNext Try.f64 = none := by kernel_rfl
theorem feFrom : Extern.find Try.f64 = some Extern.MathFloatBits.float64frombits := by kernel_rfl
@[simp] theorem bits_run (b : Nat) (w : World) : (callFunc 65 #[.float .f64 b]).run Try.prog w = .ok (.value (.int .u64 b)) w := by
  rw [run_callFunc_extern Try.func65 (by kernel_rfl) rfl fnBits feBits]; rfl
@[simp] theorem frombits_run (n : Int) (w : World) : (callFunc 64 #[.int .u64 n]).run Try.prog w = .ok (.value (.float .f64 n.toNat)) w := by
  rw [run_callFunc_extern Try.func64 (by kernel_rfl) rfl fnFrom feFrom]; rfl

theorem andNot_sign (b : Nat) : Go.bits .andNot .u64 (b : Int) 9223372036854775808 = ((b % 9223372036854775808 : Nat) : Int) := by
  show IntKind.u64.wrap ((BitVec.ofInt 64 (b : Int) &&& ~~~BitVec.ofInt 64 (9223372036854775808 : Int)).toNat : Int) = _
  have e : (~~~BitVec.ofInt 64 (9223372036854775808 : Int)).toNat = 2 ^ 63 - 1 := by decide
  have hu : ∀ n : Int, IntKind.u64.wrap n = n % 18446744073709551616 := by
    intro n; simp [IntKind.wrap, IntKind.bits, IntKind.signed]
  rw [BitVec.toNat_and, e, Nat.and_two_pow_sub_one_eq_mod, hu]
  have h : (BitVec.ofInt 64 (b : Int)).toNat = b % 2 ^ 64 := by simp [BitVec.toNat_ofInt]
  rw [h]; omega
theorem fabs_canon (b : Nat) : fabs (canon .f64 b) = canon .f64 (b % 9223372036854775808) := by
  unfold fabs
  cases h : isNan .f64 b with
  | false => rw [canon_num h]
  | true =>
    rw [canon_nan h]
    have : isNan .f64 (b % 9223372036854775808) = true := by
      rw [isNan_f64] at h ⊢
      simp only [decide_eq_true_eq] at h ⊢; omega
    rw [canon_nan this]; rfl
theorem abs_ok (x : Nat) (H : Heap) : FnOk Try.prog 56 [.flt .f64 x] H (.flt .f64 (fabs x)) H := by
  intro μ w cargs hr ha
  obtain ⟨b, rfl, rfl⟩ : ∃ b, cargs = #[.float .f64 b] ∧ canon .f64 b = x := by
    obtain ⟨h1, h2⟩ := ha
    match cargs, h1 with
    | ⟨[v]⟩, _ =>
      have := h2 0 _ v rfl rfl
      cases this
      exact ⟨_, rfl, rfl⟩
  refine .inl ⟨Try.call56 _ w, Calls.mono (R := fun e w' => e = .returned (.float .f64 (b % 9223372036854775808)) ∧ w' = w) ?_ ?_⟩
  · go_enter Try.func56, Try.ntmps56
    go_wp2
    go_ret
    exact ⟨by rw [andNot_sign]; rfl, rfl⟩
  · rintro e w' ⟨rfl, rfl⟩
    refine ⟨_, μ, rfl, ?_, hr, Adv.refl _ _ _⟩
    rw [fabs_canon]
    exact .flt _ _


def Abs_F : DFn := fun args L =>
  match args with
  | [.flt .f64 x] => .leaf (.flt .f64 (fabs x), L)
  | _ => .fail
theorem Abs_Fok : COk Try.prog 56 Abs_F true := by
  refine cok_pure fun F L H args r L' hs ha hr => ?_
  unfold Abs_F at hr
  split at hr
  · simp only [Tree.run, Option.some.injEq, Prod.mk.injEq] at hr
    obtain ⟨rfl, rfl⟩ := hr
    exact ⟨rfl, trivial, abs_ok _ _⟩
  · cases hr
def fsqrt (x : Nat) : Nat := fres .f64 (FloatKind.f64.format.sqrt x)
theorem sqrt_canon (b : Nat) : FloatKind.f64.format.sqrt (canon .f64 b) = FloatKind.f64.format.sqrt b := by
  have key : ∀ b, FloatKind.f64.format.sqrt b = ((FloatKind.f64.decode b).root (FloatKind.f64.format.fractionBits + 2)).map FloatKind.f64.format.write := fun _ => rfl
  rw [key, key]
  rcases decode_canon .f64 b with ⟨s, f, s', f', h1, h2⟩ | hb
  · rw [h1, h2]; rfl
  · rw [hb]
theorem fnSqrt : Extern.findNext Try.f66 = none := by kernel_rfl
theorem feSqrt : Extern.find Try.f66 = some Extern.MathSqrt.sqrt := by kernel_rfl
theorem sqrt_ok (x : Nat) (H : Heap) : FnOk Try.prog 66 [.flt .f64 x] H (.flt .f64 (fsqrt x)) H := by
  intro μ w cargs hr ha
  obtain ⟨b, rfl, rfl⟩ : ∃ b, cargs = #[.float .f64 b] ∧ canon .f64 b = x := by
    obtain ⟨h1, h2⟩ := ha
    match cargs, h1 with
    | ⟨[v]⟩, _ =>
      have := h2 0 _ v rfl rfl
      cases this
      exact ⟨_, rfl, rfl⟩
  refine .inr ?_
  rw [fsqrt, sqrt_canon]
  have run := run_callFunc_extern Try.func66 (by kernel_rfl) rfl fnSqrt feSqrt #[.float .f64 b] w
  have hc : (choose (.nanBits .f64 b b)).run Try.prog w = .ok ((Question.nanBits .f64 b b).cut (w.tape w.drawn (.nanBits .f64 b b))) w.drew := run_choose Try.prog _ w rfl
  have es : Extern.MathSqrt.sqrt #[.float .f64 b] = (match FloatKind.f64.format.sqrt b with
    | some r => pure (.float .f64 r)
    | none => do pure (.float .f64 (← choose (.nanBits .f64 b b)))) := rfl
  cases ho : FloatKind.f64.format.sqrt b with
  | some r =>
    rw [es, ho] at run
    exact ⟨_, w, μ, run, .flt .f64 r, hr, Adv.refl _ _ _⟩
  | none =>
    rw [es, ho] at run
    simp only [Sem.run_bind, hc] at run
    have := VR.flt (H := H) (μ := μ) .f64 ((Question.nanBits .f64 b b).cut (w.tape w.drawn (.nanBits .f64 b b)))
    rw [canon_nan (cut_nanBits .f64 b b _)] at this
    exact ⟨_, w.drew, μ, run, this, (hr.same (w' := w.drew) rfl rfl rfl rfl).1, (hr.same (w' := w.drew) rfl rfl rfl rfl).2⟩
def Sqrt_F : DFn := fun args L =>
  match args with
  | [.flt .f64 x] => .leaf (.flt .f64 (fsqrt x), L)
  | _ => .fail
theorem Sqrt_Fok : COk Try.prog 66 Sqrt_F true := by
  refine cok_pure fun F L H args r L' hs ha hr => ?_
  unfold Sqrt_F at hr
  split at hr
  · simp only [Tree.run, Option.some.injEq, Prod.mk.injEq] at hr
    obtain ⟨rfl, rfl⟩ := hr
    exact ⟨rfl, trivial, sqrt_ok _ _⟩
  · cases hr
--IF Bits64_F
theorem fnBits64 : Extern.findNext Try.f65 = none := by kernel_rfl
theorem feBits64 : Extern.find Try.f65 = some Extern.MathFloatBits.float64bits := by kernel_rfl
theorem bits64_ok (x : Nat) (hx : isNan .f64 x = false) (H : Heap) : FnOk Try.prog 65 [.flt .f64 x] H (.int .u64 x) H := by
  intro μ w cargs hr ha
  obtain ⟨b, rfl, rfl⟩ : ∃ b, cargs = #[.float .f64 b] ∧ canon .f64 b = x := by
    obtain ⟨h1, h2⟩ := ha
    match cargs, h1 with
    | ⟨[v]⟩, _ =>
      have := h2 0 _ v rfl rfl
      cases this
      exact ⟨_, rfl, rfl⟩
  have hb : isNan .f64 b = false := by
    cases h : isNan .f64 b with
    | false => rfl
    | true =>
      rw [canon_nan h] at hx
      have q : isNan .f64 (qnan .f64) = true := by kernel_rfl
      rw [q] at hx; cases hx
  rw [canon_num hb]
  refine .inr ?_
  have run := run_callFunc_extern Try.func65 (by kernel_rfl) rfl fnBits64 feBits64 #[.float .f64 b] w
  exact ⟨_, w, μ, run, .int .u64 _, hr, Adv.refl _ _ _⟩
def Bits64_F : DFn := fun args L =>
  match args with
  | [.flt .f64 x] => .grd (!isNan .f64 x) (.leaf (.int .u64 ((x : Nat) : Int), L))
  | _ => .fail
theorem Bits64_Fok : COk Try.prog 65 Bits64_F true := by
  refine cok_pure fun F L H args r L' hs ha hr => ?_
  unfold Bits64_F at hr
  split at hr
  · obtain ⟨hg, hr⟩ := grd_run hr
    simp only [Bool.not_eq_true'] at hg
    simp only [Tree.run, Option.some.injEq, Prod.mk.injEq] at hr
    obtain ⟨rfl, rfl⟩ := hr
    exact ⟨rfl, trivial, bits64_ok _ hg _⟩
  · cases hr
end Go.Proofs.Ytbnakafnaeafiaa.AM
