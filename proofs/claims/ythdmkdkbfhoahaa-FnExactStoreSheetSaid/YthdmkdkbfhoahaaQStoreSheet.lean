/- The law StoreSheet: both sides, and the law. -/
import Derived.Test.YthdmkdkbfhoahaaST0
set_option linter.unusedSimpArgs false
set_option linter.unusedVariables false
set_option maxHeartbeats 1000000
namespace Go.Proofs.Ythdmkdkbfhoahaa.AM

/-- Is it a sheet? -/
def sheetB (s : ByteArray) (r c : Int) (xs : List Nat) : Bool := (!notName s && decide ((1 : Int) ≤ (s.size : Int)) && decide ((s.size : Int) ≤ 8)) && (decide (1 ≤ r) && decide (r ≤ 12) && (decide (1 ≤ c) && decide (c ≤ 12)) && decide ((xs.length : Int) = IntKind.i64.wrap (r * c)) && xs.all sfin)
theorem sheetS (s : ByteArray) (r c : Int) (xs : List Nat) (hs : s.size < 9223372036854775808) (h : xs.length ≤ maxN) : spec_l07Sheet_g s r c xs = some (sheetB s r c xs) := by
  unfold sheetB
  simp only [spec_l07Sheet_g, spec_l07Sheet_T, Tree.run, nameS s hs, matS r c xs h, Option.bind_some]
  cases (!notName s && decide ((1 : Int) ≤ (s.size : Int)) && decide ((s.size : Int) ≤ 8)) <;> simp [Tree.run]
theorem sheetI (s : ByteArray) (r c : Int) (xs : List Nat) (hs : s.size < 9223372036854775808) (h : xs.length ≤ maxN) : impl_ValidSheet_g s r c xs = some (sheetB s r c xs) := by
  unfold sheetB
  simp only [impl_ValidSheet_g, impl_ValidSheet_T, Tree.run, nameI s hs, matI r c xs h, Option.bind_some]
  cases (!notName s && decide ((1 : Int) ≤ (s.size : Int)) && decide ((s.size : Int) ≤ 8)) <;> simp [Tree.run]
theorem sheet_bd {s : ByteArray} {r c : Int} {xs : List Nat} (h : sheetB s r c xs = true) : s.size ≤ 8 ∧ 1 ≤ r ∧ r ≤ 12 ∧ 1 ≤ c ∧ c ≤ 12 ∧ (xs.length : Int) = r * c := by
  unfold sheetB at h
  simp only [Bool.and_eq_true, decide_eq_true_eq] at h
  obtain ⟨⟨_, h1⟩, ⟨⟨⟨h2, h3⟩, h4, h5⟩, h6⟩, _⟩ := h
  have h7 : r * c ≤ 12 * 12 := Int.mul_le_mul h3 h5 (by omega) (by omega)
  have h8 : 0 ≤ r * c := Int.mul_nonneg (by omega) (by omega)
  rw [w64 (by omega) (by omega)] at h6
  exact ⟨by omega, h2, h3, h4, h5, h6⟩
theorem sheet_len {s : ByteArray} {r c : Int} {xs : List Nat} (h : sheetB s r c xs = true) : xs.length ≤ 144 := by
  obtain ⟨_, h2, h3, h4, h5, h6⟩ := sheet_bd h
  have h7 : r * c ≤ 12 * 12 := Int.mul_le_mul h3 h5 (by omega) (by omega)
  omega
theorem store_both (s : ByteArray) (r c : Int) (xs : List Nat) (hs : s.size < 9223372036854775808) (h : xs.length ≤ maxN) (hx : ∀ x ∈ xs, x < 4294967296) :
    ∃ v, impl_StoreSheet_g s r c xs = some v ∧ spec_StoreSheet_g s r c xs = some v := by
  simp only [impl_StoreSheet_g, impl_StoreSheet_T, spec_StoreSheet_g, spec_StoreSheet_T, Tree.run, sheetS s r c xs hs h, sheetI s r c xs hs h, Option.bind_some]
  cases hb : sheetB s r c xs with
  | false => exact ⟨_, rfl, rfl⟩
  | true =>
    obtain ⟨v, h1, h2, _⟩ := storeB s r c xs (by have := (sheet_bd hb).1; omega) hx (by have := sheet_len hb; omega)
    exact ⟨.inr v, by simp [h1, Tree.run], by simp [h2, Tree.run]⟩
theorem store_law (s : ByteArray) (r c : Int) (xs : List Nat) (hs : s.size < 9223372036854775808) (hr : -9223372036854775808 ≤ r ∧ r < 9223372036854775808) (hc : -9223372036854775808 ≤ c ∧ c < 9223372036854775808) (h : xs.length ≤ maxN) (hx : ∀ x ∈ xs, x < 4294967296) :
    laws_FnExactStoreSheet_g s r c xs = some true := by
  obtain ⟨v, h1, h2⟩ := store_both s r c xs hs h hx
  have te := toS_ok s r c xs h
  have ee := eqSheet_self s r c xs h
  simp only [laws_FnExactStoreSheet_g, laws_FnExactStoreSheet_T, Tree.run, te, ee, h1, h2, Option.bind_some]
  split
  · rfl
  · cases v <;> simp [Tree.run, te, ee, h1]
theorem store_lawL (s : ByteArray) (r c : Int) (n : Nat) (hs : s.size < 9223372036854775808) (hr : -9223372036854775808 ≤ r ∧ r < 9223372036854775808) (hc : -9223372036854775808 ≤ c ∧ c < 9223372036854775808) (h : n < 9223372036854775808) (big : maxN < n) :
    laws_FnExactStoreSheet_len_g s n = some true := by
  unfold maxN at big
  have w : IntKind.i64.wrap (1048576 - (s.size : Int)) = 1048576 - (s.size : Int) := w64 (by omega) (by omega)
  have e : decide (laws_szSheet_len_v s n 1048576 < 0) = true := by
    unfold laws_szSheet_len_v
    rw [w]
    by_cases c : 1048576 - (s.size : Int) < 0
    · rw [if_pos (by simpa using c)]; rfl
    · rw [if_neg (by simpa using c), szM_len n _ (by omega) (by omega) h, if_neg (show ¬ ((n : Int) ≤ 1048576 - (s.size : Int)) by omega)]; rfl
  simp only [laws_FnExactStoreSheet_len_g, laws_FnExactStoreSheet_len_T, Tree.run, e, if_true]
end Go.Proofs.Ythdmkdkbfhoahaa.AM
