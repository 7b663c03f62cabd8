import Derived.Tactics2
import Derived.Laws.Externs
import Derived.Laws.Entries
import Derived.Test.YtmgpbchacndndaaTy
set_option maxRecDepth 100000
set_option maxHeartbeats 4000000
set_option linter.unusedSimpArgs false
set_option linter.unusedVariables false
namespace Go.Proofs.Ytmgpbchacndndaa.AM
open Go.Proofs
theorem Apa_ : Extern.findNext Try.f75 = none := by kernel_rfl
theorem Abk_ : Extern.find Try.f75 = some Extern.MathFloatBits.float64bits := by kernel_rfl
theorem Aox_ : Extern.findNext Try.f74 = none := by kernel_rfl
theorem Ado_ : Extern.find Try.f74 = some Extern.MathFloatBits.float64frombits := by kernel_rfl
@[simp] theorem Are_ (b : Nat) (w : World) : (callFunc 75 #[.float .f64 b]).run Try.prog w = .ok (.value (.int .u64 b)) w := by
  rw [run_callFunc_extern Try.func75 (by kernel_rfl) rfl Apa_ Abk_]; rfl
@[simp] theorem Ard_ (n : Int) (w : World) : (callFunc 74 #[.int .u64 n]).run Try.prog w = .ok (.value (.float .f64 n.toNat)) w := by
  rw [run_callFunc_extern Try.func74 (by kernel_rfl) rfl Aox_ Ado_]; rfl
def C3_ (x : Nat) : Nat := canon .f64 (FloatKind.f64.encode ((FloatKind.f64.decode x).integral .down))
theorem Ag4_ : Extern.findNext Try.f53 = none := by kernel_rfl
theorem Am8_ : Extern.find Try.f53 = some (Extern.MathFloor.toIntegral "math.archFloor" .down) := by kernel_rfl
theorem Aei_ (x : Nat) (hx : isNan .f64 x = false) (H : Heap) : FnOk Try.prog 53 [.flt .f64 x] H (.flt .f64 (C3_ x)) H := by
  intro μ w cargs hr ha
  obtain ⟨b, rfl, rfl⟩ : ∃ b, cargs = #[.float .f64 b] ∧ canon .f64 b = x := by
    obtain ⟨h1, h2⟩ := ha
    match cargs, h1 with
    | ⟨[v]⟩, _ =>
      have := h2 0 _ v rfl rfl
      cases this
      exact ⟨_, rfl, rfl⟩
  have hb : isNan .f64 b = false := by
    cases h : isNan .f64 b with
    | false => rfl
    | true =>
      rw [Cm_ h] at hx
      have q : isNan .f64 (qnan .f64) = true := by kernel_rfl
      rw [q] at hx; cases hx
  rw [Kq_ hb]
  refine .inr ?_
  have run := run_callFunc_extern Try.func53 (by kernel_rfl) rfl Ag4_ Am8_ #[.float .f64 b] w
  have es : ∀ d, FloatKind.f64.decode b = d → d.isNaN = false → Extern.MathFloor.toIntegral "math.archFloor" .down #[.float .f64 b] = pure (.float .f64 (FloatKind.f64.encode (d.integral .down))) := by
    intro d hd hn
    conv => lhs; whnf
    rw [hd]
    cases d with
    | nan s t => cases hn
    | infinity s => rfl
    | number s m i => rfl
  rw [es _ rfl (by unfold isNan at hb; exact hb)] at run
  exact ⟨_, w, μ, run, .flt .f64 _, hr, Adv.refl _ _ _⟩
def Pj_ : DFn := fun args L =>
  match args with
  | [.flt .f64 x] => .grd (!isNan .f64 x) (.leaf (.flt .f64 (C3_ x), L))
  | _ => .fail
theorem Ab3_ : COk Try.prog 53 Pj_ true := by
  refine Ao8_ fun F L H args r L' hs ha hr => ?_
  unfold Pj_ at hr
  split at hr
  · obtain ⟨hg, hr⟩ := Apf_ hr
    simp only [Bool.not_eq_true'] at hg
    simp only [Tree.run, Option.some.injEq, Prod.mk.injEq] at hr
    obtain ⟨rfl, rfl⟩ := hr
    exact ⟨rfl, trivial, Aei_ _ hg _⟩
  · cases hr
end Go.Proofs.Ytmgpbchacndndaa.AM
