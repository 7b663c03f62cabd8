/- Functions without a body, and such as are met by hand. -/
import Derived.Tactics2
import Derived.Laws.Externs
import Derived.Laws.Entries
import Derived.Test.YtmgpbchacndndaaTy
set_option maxRecDepth 100000
set_option maxHeartbeats 4000000
set_option linter.unusedSimpArgs false
set_option linter.unusedVariables false
namespace Go.Proofs.Ytmgpbchacndndaa.AM
open Go.Proofs
theorem fnBits : Extern.findNext Try.f75 = none := by kernel_rfl
theorem feBits : Extern.find Try.f75 = some Extern.MathFloatBits.float64bits := by kernel_rfl
theorem fnFrom : Extern.findNext Try.f74 = none := by kernel_rfl
theorem feFrom : Extern.find Try.f74 = some Extern.MathFloatBits.float64frombits := by kernel_rfl
@[simp] theorem bits_run (b : Nat) (w : World) : (callFunc 75 #[.float .f64 b]).run Try.prog w = .ok (.value (.int .u64 b)) w := by
  rw [run_callFunc_extern Try.func75 (by kernel_rfl) rfl fnBits feBits]; rfl
@[simp] theorem frombits_run (n : Int) (w : World) : (callFunc 74 #[.int .u64 n]).run Try.prog w = .ok (.value (.float .f64 n.toNat)) w := by
  rw [run_callFunc_extern Try.func74 (by kernel_rfl) rfl fnFrom feFrom]; rfl

def ffloor (x : Nat) : Nat := canon .f64 (FloatKind.f64.encode ((FloatKind.f64.decode x).integral .down))
theorem fnFloor : Extern.findNext Try.f53 = none := by kernel_rfl
theorem feFloor : Extern.find Try.f53 = some (Extern.MathFloor.toIntegral "math.archFloor" .down) := by kernel_rfl
theorem floor_ok (x : Nat) (hx : isNan .f64 x = false) (H : Heap) : FnOk Try.prog 53 [.flt .f64 x] H (.flt .f64 (ffloor x)) H := by
  intro μ w cargs hr ha
  obtain ⟨b, rfl, rfl⟩ : ∃ b, cargs = #[.float .f64 b] ∧ canon .f64 b = x := by
    obtain ⟨h1, h2⟩ := ha
    match cargs, h1 with
    | ⟨[v]⟩, _ =>
      have := h2 0 _ v rfl rfl
      cases this
      exact ⟨_, rfl, rfl⟩
  have hb : isNan .f64 b = false := by
    cases h : isNan .f64 b with
    | false => rfl
    | true =>
      rw [canon_nan h] at hx
      have q : isNan .f64 (qnan .f64) = true := by kernel_rfl
      rw [q] at hx; cases hx
  rw [canon_num hb]
  refine .inr ?_
  have run := run_callFunc_extern Try.func53 (by kernel_rfl) rfl fnFloor feFloor #[.float .f64 b] w
  have es : ∀ d, FloatKind.f64.decode b = d → d.isNaN = false → Extern.MathFloor.toIntegral "math.archFloor" .down #[.float .f64 b] = pure (.float .f64 (FloatKind.f64.encode (d.integral .down))) := by
    intro d hd hn
    conv => lhs; whnf
    rw [hd]
    cases d with
    | nan s t => cases hn
    | infinity s => rfl
    | number s m i => rfl
  rw [es _ rfl (by unfold isNan at hb; exact hb)] at run
  exact ⟨_, w, μ, run, .flt .f64 _, hr, Adv.refl _ _ _⟩
def Floor_F : DFn := fun args L =>
  match args with
  | [.flt .f64 x] => .grd (!isNan .f64 x) (.leaf (.flt .f64 (ffloor x), L))
  | _ => .fail
theorem Floor_Fok : COk Try.prog 53 Floor_F true := by
  refine cok_pure fun F L H args r L' hs ha hr => ?_
  unfold Floor_F at hr
  split at hr
  · obtain ⟨hg, hr⟩ := grd_run hr
    simp only [Bool.not_eq_true'] at hg
    simp only [Tree.run, Option.some.injEq, Prod.mk.injEq] at hr
    obtain ⟨rfl, rfl⟩ := hr
    exact ⟨rfl, trivial, floor_ok _ hg _⟩
  · cases hr
end Go.Proofs.Ytmgpbchacndndaa.AM
