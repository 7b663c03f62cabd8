/- The law RecoverSheets: both sides, and the law. -/
import Derived.Test.YthdmkdkbfhoahaaRS0
set_option linter.unusedSimpArgs false
set_option linter.unusedVariables false
set_option maxHeartbeats 2000000
namespace Go.Proofs.Ythdmkdkbfhoahaa.AM

theorem recs_both (s : ByteArray) (hsz : s.size < 4294967296) : ∃ (K : Nat) (at2 : Int) (nms : List ByteArray) (rs cs : List Int) (pool : List (List Nat)), K ≤ 8 ∧ Shs K 144 nms rs cs pool ∧
    spec_RecoverSheets_g s = some (at2, nms, rs, cs, pool, ixR K) ∧ impl_RecoverSheets_g s = some (at2, nms, rs, cs, pool, ixR K) := by
  obtain ⟨K, at2, nms, rs, cs, pool, h1, h2, h3, h4⟩ := rec_loop s hsz 8 0 0 [] [] [] [] rfl ⟨rfl, rfl, rfl, rfl, fun j hj => by omega⟩ (Int.le_refl _) (by omega)
  refine ⟨K, at2, nms, rs, cs, pool, h1, h2, ?_, ?_⟩
  · have : spec_RecoverSheets_l0_g s ((0 : Int), ([] : List ByteArray), ([] : List Int), ([] : List Int), ([] : List (List Nat)), ([] : List Nat)) = some (at2, nms, rs, cs, pool, ixR K) := h3
    simp only [spec_RecoverSheets_g, spec_RecoverSheets_T, Tree.run, if_true, this, Option.bind_some]
  · have : impl_RecoverSheets_l0_g s ((0 : Int), ([] : List ByteArray), ([] : List Int), ([] : List Int), ([] : List (List Nat)), ([] : List Nat)) = some (at2, nms, rs, cs, pool, ixR K) := h4
    simp only [impl_RecoverSheets_g, impl_RecoverSheets_T, Tree.run, if_true, this, Option.bind_some]
theorem recs_law (s : ByteArray) (hs : s.size < 9223372036854775808) : laws_FnExactRecoverSheets_g s = some true := by
  simp only [laws_FnExactRecoverSheets_g, laws_FnExactRecoverSheets_T, Tree.run]
  by_cases hb : (1048576 : Int) < ((s.size : Nat) : Int)
  · simp [hb]
  · simp only [hb, decide_false, Bool.false_eq_true, if_false]
    obtain ⟨K, at2, nms, rs, cs, pool, h1, h2, h3, h4⟩ := recs_both s (by omega)
    have e1 := eqShS h2 (by unfold maxN; omega) (by decide)
    obtain ⟨nms', rs', cs', pool', m1, m2⟩ := markShS h2 h1 (by omega)
    have hh := heldShS h2 h1 (by omega) m2
    have hbd := ofR_bd h2 1 K (Nat.le_refl _)
    have hneg : decide (ofR pool 1 K < 0) = false := decide_eq_false (by omega)
    have hl : nms'.length = nms.length := by rw [m2.nl, h2.nl]
    simp only [h3, h4, Option.bind_some, e1, m1, hh, hneg, hl, Tree.run, decide_true, if_true, Bool.not_true, Bool.not_false, Bool.false_eq_true, if_false, beq_self_eq_true]
end Go.Proofs.Ythdmkdkbfhoahaa.AM
