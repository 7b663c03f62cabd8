import Derived.Test.YtmgpbchacndndaaE8
import Derived.Test.YtmgpbchacndndaaB5
set_option linter.unusedSimpArgs false
set_option linter.unusedVariables false
namespace Go.Proofs.Ytmgpbchacndndaa.AM
open Ieee
theorem Qw_ (f : Format) (n : Bool) (p : Int) : f.nearest n 0 p = f.word n 0 := by simp [Format.nearest]
theorem Zx_ (x : Nat) : (∃ s m i, FloatKind.f32.decode x = .number s m i ∧ m < 2 ^ 24 ∧ -149 ≤ i ∧ i ≤ 104) ∨ (∃ s, FloatKind.f32.decode x = .infinity s) ∨ (∃ s f, FloatKind.f32.decode x = .nan s f) := by
  have e1 : single.signWeight = 2147483648 := by kernel_rfl
  have e2 : single.binade = 8388608 := by kernel_rfl
  have e3 : single.infRung = 2139095040 := by kernel_rfl
  have e4 : single.leastPlace = -149 := by kernel_rfl
  unfold FloatKind.decode FloatKind.format Format.read
  simp only [e1, e2, e3, e4]
  split
  · exact .inl ⟨_, _, _, rfl, by omega, by omega, by omega⟩
  · split
    · exact .inl ⟨_, _, _, rfl, by omega, by omega, by omega⟩
    · split
      · exact .inr (.inl ⟨_, rfl⟩)
      · exact .inr (.inr ⟨_, _, rfl⟩)
theorem Aap_ (x : Nat) (h : x % 9223372036854775808 < 9218868437227405312) : ∃ s m i, FloatKind.f64.decode x = .number s m i ∧ m < 2 ^ 53 ∧ i ≤ 971 := by
  have e1 : double.signWeight = 9223372036854775808 := by kernel_rfl
  have e2 : double.binade = 4503599627370496 := by kernel_rfl
  have e3 : double.infRung = 9218868437227405312 := by kernel_rfl
  have e4 : double.leastPlace = -1074 := by kernel_rfl
  unfold FloatKind.decode FloatKind.format Format.read
  simp only [e1, e2, e3, e4]
  split
  · exact ⟨_, _, _, rfl, by omega, by omega⟩
  · try rw [if_pos h]
    exact ⟨_, _, _, rfl, by omega, by omega⟩
theorem Vw_ (neg : Bool) (n : Nat) : Toward.even.cut neg n 0 = n := by
  simp [Toward.cut, Nat.mod_one]
theorem Ag1_ (s : Bool) (m : Nat) (i : Int) (hm : m < 2 ^ 24) (h1 : -149 ≤ i) (h2 : i ≤ 104) :
    (FloatKind.f64.encode (.number s m i)) % 9223372036854775808 < 9218868437227405312 := by
  have e1 : double.signWeight = 9223372036854775808 := by kernel_rfl
  have e2 : double.binade = 4503599627370496 := by kernel_rfl
  have e3 : double.infRung = 9218868437227405312 := by kernel_rfl
  have e4 : double.leastPlace = -1074 := by kernel_rfl
  have e5 : double.fractionBits = 52 := rfl
  have hw : ∀ r, r < 9218868437227405312 → (double.word s r) % 9223372036854775808 < 9218868437227405312 := by
    intro r hr
    unfold Format.word
    rw [e1]
    split <;> omega
  show (double.write (.number s m i)) % _ < _
  unfold Format.write Format.nearest
  simp only
  by_cases hz : m = 0
  · rw [if_pos hz]; exact hw 0 (by omega)
  · rw [if_neg hz]
    have hl : m.log2 < 24 := (Nat.log2_lt hz).2 hm
    refine hw _ ?_
    rw [e2, e3, e4, e5]
    refine Nat.lt_of_le_of_lt (Nat.min_le_left _ _) ?_
    have hlast : max (i + (m.log2 : Int) - (52 : Nat)) (-1074) = i + m.log2 - 52 := by omega
    rw [hlast]
    have hdrop : (i + (m.log2 : Int) - 52 - i).toNat = 0 := by omega
    rw [hdrop, Vw_]
    have hk : (i - (i + (m.log2 : Int) - 52)).toNat = 52 - m.log2 := by omega
    rw [hk, Nat.shiftLeft_eq]
    have hlt : m < 2 ^ (m.log2 + 1) := (Nat.log2_lt hz).1 (by omega)
    have hmul : m * 2 ^ (52 - m.log2) < 2 ^ (m.log2 + 1) * 2 ^ (52 - m.log2) := Nat.mul_lt_mul_of_pos_right hlt (Nat.two_pow_pos _)
    rw [← Nat.pow_add, show m.log2 + 1 + (52 - m.log2) = 53 by omega] at hmul
    have hn : (i + (m.log2 : Int) - 52 - -1074).toNat ≤ 1149 := by omega
    have h53 : (2 : Nat) ^ 53 = 9007199254740992 := by decide
    have := Nat.mul_le_mul_right 4503599627370496 hn
    omega
theorem Zs_ {x : Nat} (h : x % 9223372036854775808 < 9218868437227405312) : (FloatKind.f64.decode x).isInfinity = false := by
  obtain ⟨s, m, i, h1, _⟩ := Aap_ x h
  rw [h1]; rfl
def wid (x : Nat) : Nat := (fconv .f32 x .f64).getD 0
theorem Aep_ (x : Nat) : fconv .f32 x .f64 = some (wid x) := by
  unfold wid
  have : ∃ r, fconv .f32 x .f64 = some r := by
    unfold fconv
    rw [if_neg (by decide)]
    rcases Zx_ x with ⟨s, m, i, h, hm, h1, h2⟩ | ⟨s, h⟩ | ⟨s, f, h⟩
    · rw [h]
      simp only
      rw [if_neg (by rw [Zs_ (Ag1_ s m i hm h1 h2)]; simp)]
      exact ⟨_, rfl⟩
    · rw [h]; exact ⟨_, rfl⟩
    · rw [h]; exact ⟨_, rfl⟩
  obtain ⟨r, hr⟩ := this
  rw [hr]; rfl
end Go.Proofs.Ytmgpbchacndndaa.AM
