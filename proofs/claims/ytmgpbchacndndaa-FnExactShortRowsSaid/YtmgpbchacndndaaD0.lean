/- Floats: what is finite; what widens. -/
import Derived.Test.YtmgpbchacndndaaE8
import Derived.Test.YtmgpbchacndndaaB5
set_option linter.unusedSimpArgs false
set_option linter.unusedVariables false
namespace Go.Proofs.Ytmgpbchacndndaa.AM
open Ieee

/-- x - x is zero: the number is finite. -/
def sfin (x : Nat) : Bool := feq .f32 (fsub .f32 x x) 0
def isNum (k : FloatKind) (x : Nat) : Bool := match k.decode x with | .number .. => true | _ => false

theorem nearest_zero (f : Format) (n : Bool) (p : Int) : f.nearest n 0 p = f.word n 0 := by simp [Format.nearest]
theorem write_num_zero (f : Format) (p : Int) : f.write (.number false 0 p) = 0 := by simp [Format.write, nearest_zero, Format.word]

theorem sfin_iff (x : Nat) : sfin x = isNum .f32 x := by
  have e1 : ∀ x y, FloatKind.f32.format.sub x y = ((FloatKind.f32.decode x).sum (FloatKind.f32.decode y).opposite).map FloatKind.f32.format.write := fun _ _ => rfl
  have e2 : ∀ x y, FloatKind.f32.format.order x y = (FloatKind.f32.decode x).order (FloatKind.f32.decode y) := fun _ _ => rfl
  unfold sfin isNum feq fsub fres
  rw [e1]
  cases hd : FloatKind.f32.decode x with
  | number s m i =>
    have : Datum.sum (.number s m i) (Datum.opposite (.number s m i)) = some (.number false 0 i) := by
      simp only [Datum.opposite, Datum.sum]
      have h0 : signed s m (i - min i i).toNat + signed (!s) m (i - min i i).toNat = 0 := by
        unfold signed; cases s <;> simp <;> omega
      rw [h0]; cases s <;> simp
    rw [this]
    simp only [Option.map_some, Option.getD_some]
    rw [show FloatKind.f32.format.write (.number false 0 i) = 0 from write_num_zero _ _, canon_f32_0]
    rfl
  | infinity s =>
    have : Datum.sum (.infinity s) (Datum.opposite (.infinity s)) = none := by cases s <;> rfl
    rw [this]; rfl
  | nan s f =>
    have : Datum.sum (.nan s f) (Datum.opposite (.nan s f)) = none := rfl
    rw [this]; rfl

/-! the shape of a word -/
theorem read_f32 (x : Nat) : (∃ s m i, FloatKind.f32.decode x = .number s m i ∧ m < 2 ^ 24 ∧ -149 ≤ i ∧ i ≤ 104) ∨ (∃ s, FloatKind.f32.decode x = .infinity s) ∨ (∃ s f, FloatKind.f32.decode x = .nan s f) := by
  have e1 : single.signWeight = 2147483648 := by kernel_rfl
  have e2 : single.binade = 8388608 := by kernel_rfl
  have e3 : single.infRung = 2139095040 := by kernel_rfl
  have e4 : single.leastPlace = -149 := by kernel_rfl
  unfold FloatKind.decode FloatKind.format Format.read
  simp only [e1, e2, e3, e4]
  split
  · exact .inl ⟨_, _, _, rfl, by omega, by omega, by omega⟩
  · split
    · exact .inl ⟨_, _, _, rfl, by omega, by omega, by omega⟩
    · split
      · exact .inr (.inl ⟨_, rfl⟩)
      · exact .inr (.inr ⟨_, _, rfl⟩)

/-- What a double of a small number reads as: a number whose parts are bounded. -/
theorem read_f64 (x : Nat) (h : x % 9223372036854775808 < 9218868437227405312) : ∃ s m i, FloatKind.f64.decode x = .number s m i ∧ m < 2 ^ 53 ∧ i ≤ 971 := by
  have e1 : double.signWeight = 9223372036854775808 := by kernel_rfl
  have e2 : double.binade = 4503599627370496 := by kernel_rfl
  have e3 : double.infRung = 9218868437227405312 := by kernel_rfl
  have e4 : double.leastPlace = -1074 := by kernel_rfl
  unfold FloatKind.decode FloatKind.format Format.read
  simp only [e1, e2, e3, e4]
  split
  · exact ⟨_, _, _, rfl, by omega, by omega⟩
  · try rw [if_pos h]
    exact ⟨_, _, _, rfl, by omega, by omega⟩

theorem cut_exact (neg : Bool) (n : Nat) : Toward.even.cut neg n 0 = n := by
  simp [Toward.cut, Nat.mod_one]

/-- A number of single precision widens to a number. -/
theorem widen_num (s : Bool) (m : Nat) (i : Int) (hm : m < 2 ^ 24) (h1 : -149 ≤ i) (h2 : i ≤ 104) :
    (FloatKind.f64.encode (.number s m i)) % 9223372036854775808 < 9218868437227405312 := by
  have e1 : double.signWeight = 9223372036854775808 := by kernel_rfl
  have e2 : double.binade = 4503599627370496 := by kernel_rfl
  have e3 : double.infRung = 9218868437227405312 := by kernel_rfl
  have e4 : double.leastPlace = -1074 := by kernel_rfl
  have e5 : double.fractionBits = 52 := rfl
  have hw : ∀ r, r < 9218868437227405312 → (double.word s r) % 9223372036854775808 < 9218868437227405312 := by
    intro r hr
    unfold Format.word
    rw [e1]
    split <;> omega
  show (double.write (.number s m i)) % _ < _
  unfold Format.write Format.nearest
  simp only
  by_cases hz : m = 0
  · rw [if_pos hz]; exact hw 0 (by omega)
  · rw [if_neg hz]
    have hl : m.log2 < 24 := (Nat.log2_lt hz).2 hm
    refine hw _ ?_
    rw [e2, e3, e4, e5]
    refine Nat.lt_of_le_of_lt (Nat.min_le_left _ _) ?_
    have hlast : max (i + (m.log2 : Int) - (52 : Nat)) (-1074) = i + m.log2 - 52 := by omega
    rw [hlast]
    have hdrop : (i + (m.log2 : Int) - 52 - i).toNat = 0 := by omega
    rw [hdrop, cut_exact]
    have hk : (i - (i + (m.log2 : Int) - 52)).toNat = 52 - m.log2 := by omega
    rw [hk, Nat.shiftLeft_eq]
    have hlt : m < 2 ^ (m.log2 + 1) := (Nat.log2_lt hz).1 (by omega)
    have hmul : m * 2 ^ (52 - m.log2) < 2 ^ (m.log2 + 1) * 2 ^ (52 - m.log2) := Nat.mul_lt_mul_of_pos_right hlt (Nat.two_pow_pos _)
    rw [← Nat.pow_add, show m.log2 + 1 + (52 - m.log2) = 53 by omega] at hmul
    have hn : (i + (m.log2 : Int) - 52 - -1074).toNat ≤ 1149 := by omega
    have h53 : (2 : Nat) ^ 53 = 9007199254740992 := by decide
    have := Nat.mul_le_mul_right 4503599627370496 hn
    omega

theorem isInf_f64_num {x : Nat} (h : x % 9223372036854775808 < 9218868437227405312) : (FloatKind.f64.decode x).isInfinity = false := by
  obtain ⟨s, m, i, h1, _⟩ := read_f64 x h
  rw [h1]; rfl

/-- The double of a single. -/
def wid (x : Nat) : Nat := (fconv .f32 x .f64).getD 0
theorem fconv_wid (x : Nat) : fconv .f32 x .f64 = some (wid x) := by
  unfold wid
  have : ∃ r, fconv .f32 x .f64 = some r := by
    unfold fconv
    rw [if_neg (by decide)]
    rcases read_f32 x with ⟨s, m, i, h, hm, h1, h2⟩ | ⟨s, h⟩ | ⟨s, f, h⟩
    · rw [h]
      simp only
      rw [if_neg (by rw [isInf_f64_num (widen_num s m i hm h1 h2)]; simp)]
      exact ⟨_, rfl⟩
    · rw [h]; exact ⟨_, rfl⟩
    · rw [h]; exact ⟨_, rfl⟩
  obtain ⟨r, hr⟩ := this
  rw [hr]; rfl

theorem wid_num {x : Nat} (h : isNum .f32 x = true) : (wid x) % 9223372036854775808 < 9218868437227405312 := by
  unfold isNum at h
  rcases read_f32 x with ⟨s, m, i, hd, hm, h1, h2⟩ | ⟨s, hd⟩ | ⟨s, f, hd⟩
  · unfold wid fconv
    rw [if_neg (by decide), hd]
    simp only
    have hw := widen_num s m i hm h1 h2
    rw [if_neg (by rw [isInf_f64_num hw]; simp)]
    have hn : isNan .f64 (FloatKind.f64.encode (.number s m i)) = false := by rw [isNan_f64]; simp; omega
    simp only [Option.getD_some, canon_num hn]
    exact hw
  · rw [hd] at h; cases h
  · rw [hd] at h; cases h

def fabs (x : Nat) : Nat := canon .f64 (x % 9223372036854775808)
def maxF64 : Nat := 9218868437227405311

theorem order_f64 (x y : Nat) : FloatKind.f64.format.order x y = (FloatKind.f64.decode x).order (FloatKind.f64.decode y) := rfl

theorem abs_mod (x : Nat) : (x % 9223372036854775808) % 9223372036854775808 = x % 9223372036854775808 := Nat.mod_mod _ _

theorem le_max {x : Nat} (h : x % 9223372036854775808 < 9218868437227405312) : fgrt .f64 x maxF64 = false := by
  unfold fgrt
  rw [order_f64]
  obtain ⟨s, m, i, h1, h2, h3⟩ := read_f64 x h
  have hmax : FloatKind.f64.decode maxF64 = .number false 9007199254740991 971 := by kernel_rfl
  rw [h1, hmax]
  simp only [Datum.order]
  have hb : min i 971 = i := Int.min_eq_left h3
  rw [hb]
  have h4 : (i - i).toNat = 0 := by omega
  rw [h4]
  have hm : m ≤ 9007199254740991 := by
    have : (2:Nat) ^ 53 = 9007199254740992 := by decide
    omega
  have h6 : 9007199254740991 ≤ 9007199254740991 * 2 ^ (971 - i).toNat := Nat.le_mul_of_pos_right _ (Nat.two_pow_pos _)
  have h5 : signed s m 0 ≤ signed false 9007199254740991 (971 - i).toNat := by
    unfold signed
    rw [Nat.shiftLeft_eq, Nat.shiftLeft_eq]
    generalize 9007199254740991 * 2 ^ (971 - i).toNat = q at h6 ⊢
    cases s
    · show (((m * 2 ^ 0 : Nat)) : Int) ≤ (q : Int)
      omega
    · show -(((m * 2 ^ 0 : Nat)) : Int) ≤ (q : Int)
      omega
  rcases Int.lt_or_eq_of_le h5 with h7 | h7
  · rw [Int.compare_eq_lt.2 h7]; rfl
  · rw [h7, Int.compare_eq_eq.2 rfl]; rfl

/-- 'finite', as the program asks it. -/
theorem ifin (x : Nat) : (feq .f64 (wid x) (wid x) && !fgrt .f64 (fabs (wid x)) maxF64) = sfin x := by
  rw [sfin_iff]
  cases hn : isNum .f32 x with
  | true =>
    have hw := wid_num hn
    obtain ⟨s, m, i, h1, _⟩ := read_f64 _ hw
    have e1 : feq .f64 (wid x) (wid x) = true := by
      unfold feq
      rw [order_f64, h1]
      simp [Datum.order]
    have hab : (wid x % 9223372036854775808) % 9223372036854775808 < 9218868437227405312 := by omega
    have hnn : isNan .f64 (wid x % 9223372036854775808) = false := by rw [isNan_f64]; simp; omega
    have e2 : fgrt .f64 (fabs (wid x)) maxF64 = false := by
      unfold fabs
      rw [canon_num hnn]
      exact le_max hab
    rw [e1, e2]; rfl
  | false =>
    unfold isNum at hn
    rcases read_f32 x with ⟨s, m, i, hd, _⟩ | ⟨s, hd⟩ | ⟨s, f, hd⟩
    · rw [hd] at hn; cases hn
    · have : wid x = canon .f64 (FloatKind.f64.encode (.infinity s)) := by
        unfold wid fconv
        rw [if_neg (by decide), hd]; rfl
      rw [this]
      cases s <;> rfl
    · have : wid x = qnan .f64 := by
        unfold wid fconv
        rw [if_neg (by decide), hd]; rfl
      rw [this]
      rfl

end Go.Proofs.Ytmgpbchacndndaa.AM
