/- Bytes of numbers, and of sheets. -/
import Derived.Test.YthdmkdkbfhoahaaL5
import Derived.Test.YthdmkdkbfhoahaaD18
set_option linter.unusedSimpArgs false
set_option linter.unusedVariables false
set_option maxHeartbeats 1000000
namespace Go.Proofs.Ythdmkdkbfhoahaa.AM

theorem u8w (n : Int) : IntKind.u8.wrap n = n % 256 := by simp [IntKind.wrap, IntKind.bits, IntKind.signed]
theorem u32w (n : Int) : IntKind.u32.wrap n = n % 4294967296 := by simp [IntKind.wrap, IntKind.bits, IntKind.signed]
theorem ishr8 (n : Int) : ishr .i64 n 8 = n / 256 := by
  unfold ishr
  have e : (2 : Int) ^ (min (8 : Int).toNat IntKind.i64.bits) = 256 := by decide
  rw [e, Int.fdiv_eq_ediv_of_nonneg _ (by omega)]
theorem feq_nan {x : Nat} (h : isNan .f32 x = true) : feq .f32 x x = false := by
  unfold feq
  have e : ∀ x y, FloatKind.f32.format.order x y = (FloatKind.f32.decode x).order (FloatKind.f32.decode y) := by intro x y; rfl
  rw [e]
  unfold isNan at h
  cases hd : FloatKind.f32.decode x with
  | nan s t => rfl
  | infinity s => rw [hd] at h; cases h
  | number s m i => rw [hd] at h; cases h
def bitsV (x : Nat) : Int := if isNan .f32 x = true then 2143289344 else (x : Int)
theorem bitsV_bd (x : Nat) (h : x < 4294967296) : 0 ≤ bitsV x ∧ bitsV x < 4294967296 := by
  unfold bitsV; split <;> omega
theorem bitsS (x : Nat) (h : x < 4294967296) : spec_l01Bits_g x = some (bitsV x) := by
  simp only [spec_l01Bits_g, spec_l01Bits_T, Tree.run, bitsV]
  cases hn : isNan .f32 x with
  | true => rw [feq_nan hn]; rfl
  | false => rw [feq_self hn, w64 (by omega) (by omega)]; rfl
/-- The bytes of a number, the least one first. -/
def wn (n : Int) (m : Nat) : List Int := (List.range m).map fun j => n / 256 ^ j % 256
theorem wn4 (n : Int) : wn n 4 = [n % 256, n / 256 % 256, n / 65536 % 256, n / 16777216 % 256] := by simp [wn, List.range_succ]
theorem wn2 (n : Int) : wn n 2 = [n % 256, n / 256 % 256] := by simp [wn, List.range_succ]
theorem wn_len (n : Int) (m : Nat) : (wn n m).length = m := by simp [wn]
theorem spec4 (n : Int) (h0 : 0 ≤ n) (h1 : n < 9223372036854775808) : ([IntKind.u8.wrap (Int.tmod n (256 : Int)), IntKind.u8.wrap (Int.tmod (IntKind.i64.wrap (Int.tdiv n (256 : Int))) (256 : Int)), IntKind.u8.wrap (Int.tmod (IntKind.i64.wrap (Int.tdiv n (65536 : Int))) (256 : Int)), IntKind.u8.wrap (IntKind.i64.wrap (Int.tdiv n (16777216 : Int)))] : List Int) = wn n 4 := by
  rw [wn4]
  simp only [u8w, Int.tdiv_eq_ediv_of_nonneg h0]
  rw [w64 (n := n / 256) (by omega) (by omega), w64 (n := n / 65536) (by omega) (by omega), w64 (n := n / 16777216) (by omega) (by omega)]
  rw [Int.tmod_eq_emod_of_nonneg h0, Int.tmod_eq_emod_of_nonneg (show 0 ≤ n / 256 by omega), Int.tmod_eq_emod_of_nonneg (show 0 ≤ n / 65536 by omega)]
  simp only [Int.emod_emod_of_dvd, Int.dvd_refl]
theorem spec2 (n : Int) (h0 : 0 ≤ n) (h1 : n < 65536) : ([IntKind.u8.wrap (Int.tmod n (256 : Int)), IntKind.u8.wrap (IntKind.i64.wrap (Int.tdiv n (256 : Int)))] : List Int) = wn n 2 := by
  rw [wn2]
  simp only [u8w, Int.tdiv_eq_ediv_of_nonneg h0]
  rw [w64 (n := n / 256) (by omega) (by omega), Int.tmod_eq_emod_of_nonneg h0]
  simp only [Int.emod_emod_of_dvd, Int.dvd_refl]
theorem bt_bd (s : ByteArray) (i : Int) : 0 ≤ bt s i ∧ bt s i < 256 := by
  unfold bt
  cases s[i.toNat]? with
  | none => simp
  | some b => have := b.toNat_lt; simp; omega
theorem strOfNums_sz (xs : List Int) : (strOfNums xs).size = xs.length := strOfNums_size xs
end Go.Proofs.Ythdmkdkbfhoahaa.AM
