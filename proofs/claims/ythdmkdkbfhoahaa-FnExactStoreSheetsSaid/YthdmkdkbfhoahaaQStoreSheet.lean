/- The law StoreSheet: both sides, and the law. -/
import Derived.Test.YthdmkdkbfhoahaaST0
set_option linter.unusedSimpArgs false
set_option linter.unusedVariables false
set_option maxHeartbeats 1000000
namespace Go.Proofs.Ythdmkdkbfhoahaa.AM

/-- Is it a sheet? -/
def sheetB (s : ByteArray) (r c : Int) (xs : List Nat) : Bool := (!notName s && decide ((1 : Int) ≤ (s.size : Int)) && decide ((s.size : Int) ≤ 8)) && (decide (1 ≤ r) && decide (r ≤ 12) && (decide (1 ≤ c) && decide (c ≤ 12)) && decide ((xs.length : Int) = IntKind.i64.wrap (r * c)) && xs.all sfin)
theorem sheetS (s : ByteArray) (r c : Int) (xs : List Nat) (hs : s.size < 9223372036854775808) (h : xs.length ≤ maxN) : spec_l07Sheet_g s r c xs = some (sheetB s r c xs) := by
  unfold sheetB
  simp only [spec_l07Sheet_g, spec_l07Sheet_T, Tree.run, nameS s hs, matS r c xs h, Option.bind_some]
  cases (!notName s && decide ((1 : Int) ≤ (s.size : Int)) && decide ((s.size : Int) ≤ 8)) <;> simp [Tree.run]
theorem sheetI (s : ByteArray) (r c : Int) (xs : List Nat) (hs : s.size < 9223372036854775808) (h : xs.length ≤ maxN) : impl_ValidSheet_g s r c xs = some (sheetB s r c xs) := by
  unfold sheetB
  simp only [impl_ValidSheet_g, impl_ValidSheet_T, Tree.run, nameI s hs, matI r c xs h, Option.bind_some]
  cases (!notName s && decide ((1 : Int) ≤ (s.size : Int)) && decide ((s.size : Int) ≤ 8)) <;> simp [Tree.run]
theorem sheet_bd {s : ByteArray} {r c : Int} {xs : List Nat} (h : sheetB s r c xs = true) : s.size ≤ 8 ∧ 1 ≤ r ∧ r ≤ 12 ∧ 1 ≤ c ∧ c ≤ 12 ∧ (xs.length : Int) = r * c := by
  unfold sheetB at h
  simp only [Bool.and_eq_true, decide_eq_true_eq] at h
  obtain ⟨⟨_, h1⟩, ⟨⟨⟨h2, h3⟩, h4, h5⟩, h6⟩, _⟩ := h
  have h7 : r * c ≤ 12 * 12 := Int.mul_le_mul h3 h5 (by omega) (by omega)
  have h8 : 0 ≤ r * c := Int.mul_nonneg (by omega) (by omega)
  rw [w64 (by omega) (by omega)] at h6
  exact ⟨by omega, h2, h3, h4, h5, h6⟩
theorem sheet_len {s : ByteArray} {r c : Int} {xs : List Nat} (h : sheetB s r c xs = true) : xs.length ≤ 144 := by
  obtain ⟨_, h2, h3, h4, h5, h6⟩ := sheet_bd h
  have h7 : r * c ≤ 12 * 12 := Int.mul_le_mul h3 h5 (by omega) (by omega)
  omega
end Go.Proofs.Ythdmkdkbfhoahaa.AM
