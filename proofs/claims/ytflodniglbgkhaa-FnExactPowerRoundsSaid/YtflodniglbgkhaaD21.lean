/- A number and nothing: the same, up to the sign of nothing. Roots of what is above nothing. -/
import Derived.Test.YtflodniglbgkhaaD20
set_option linter.unusedSimpArgs false
set_option linter.unusedVariables false
namespace Go.Proofs.Ytflodniglbgkhaa.AM
open Ieee

/-- The same number, up to the sign of nothing. -/
def Like (x y : Nat) : Prop := FloatKind.f32.decode x = FloatKind.f32.decode y ∨ (∃ s i t j, FloatKind.f32.decode x = .number s 0 i ∧ FloatKind.f32.decode y = .number t 0 j ∧ i = j) ∨ (∃ s f t g, FloatKind.f32.decode x = .nan s f ∧ FloatKind.f32.decode y = .nan t g)
theorem Like.refl (x : Nat) : Like x x := .inl rfl
theorem zero_dec (s : Bool) : FloatKind.f32.decode (single.word s 0) = .number s 0 (-149) := by cases s <;> kernel_rfl
theorem write_zero (s : Bool) (p : Int) : FloatKind.f32.format.write (.number s 0 p) = single.word s 0 := by
  show single.write _ = _
  unfold Format.write
  exact nearest_zero _ _ _
theorem word0_nan (s : Bool) : isNan .f32 (single.word s 0) = false := by cases s <;> kernel_rfl
theorem sub_form (x p : Nat) : fsub .f32 x p = fres .f32 (((FloatKind.f32.decode x).sum (FloatKind.f32.decode p).opposite).map FloatKind.f32.format.write) := rfl
theorem Like.sub {x y : Nat} (h : Like x y) (p : Nat) : Like (fsub .f32 x p) (fsub .f32 y p) := by
  rcases h with h | ⟨s, i, t, j, h1, h2, rfl⟩ | ⟨s, f, t, g, h1, h2⟩
  · left; rw [sub_form, sub_form, h]
  · rw [sub_form, sub_form, h1, h2]
    cases hp : FloatKind.f32.decode p with
    | nan u g => left; rfl
    | infinity u => left; rfl
    | number u n k =>
      simp only [Datum.opposite, Datum.sum]
      have hz : ∀ (s : Bool) (e : Nat), signed s 0 e = 0 := fun s e => by unfold signed; cases s <;> simp
      rw [hz, hz]
      obtain ⟨v, hv⟩ : ∃ v, v = signed (!u) n (k - min i k).toNat := ⟨_, rfl⟩
      rw [← hv]
      by_cases h0 : (0 : Int) + v = 0
      · right; left
        rw [if_pos h0, if_pos h0]
        have hn : ((0 : Int) + v).natAbs = 0 := by omega
        rw [hn]
        simp only [Option.map_some, fres, Option.getD_some, write_zero, canon_num (word0_nan _)]
        exact ⟨_, _, _, _, zero_dec _, zero_dec _, rfl⟩
      · left
        rw [if_neg h0, if_neg h0]
  · left
    rw [sub_form, sub_form, h1, h2]
    cases FloatKind.f32.decode p <;> rfl
theorem ord_like {x y : Nat} (h : Like x y) : fgrt .f32 x 0 = fgrt .f32 y 0 := by
  have hf : ∀ z, fgrt .f32 z 0 = ((FloatKind.f32.decode z).order (FloatKind.f32.decode 0) == some .gt) := fun _ => rfl
  have hzero : FloatKind.f32.decode 0 = .number false 0 (-149) := by kernel_rfl
  rw [hf, hf, hzero]
  rcases h with h | ⟨s, i, t, j, h1, h2, rfl⟩ | ⟨s, f, t, g, h1, h2⟩
  · rw [h]
  · rw [h1, h2]
    have hz : ∀ (s : Bool) (e : Nat), signed s 0 e = 0 := fun s e => by unfold signed; cases s <;> simp
    simp only [Datum.order, hz]
  · rw [h1, h2]; rfl
/-- Above nothing, they are told alike. -/
theorem wid_like {x y : Nat} (h : Like x y) (hg : fgrt .f32 x 0 = true) : wid x = wid y := by
  have hf : ∀ z, fgrt .f32 z 0 = ((FloatKind.f32.decode z).order (FloatKind.f32.decode 0) == some .gt) := fun _ => rfl
  have hzero : FloatKind.f32.decode 0 = .number false 0 (-149) := by kernel_rfl
  rcases h with h | ⟨s, i, t, j, h1, h2, rfl⟩ | ⟨s, f, t, g, h1, h2⟩
  · unfold wid fconv
    rw [if_neg (by decide), if_neg (by decide), h]
  · exfalso
    rw [hf, h1, hzero] at hg
    have hz : ∀ (s : Bool) (e : Nat), signed s 0 e = 0 := fun s e => by unfold signed; cases s <;> simp
    simp only [Datum.order, hz] at hg
    cases hg
  · exfalso
    rw [hf, h1] at hg
    cases hg
theorem dec_word (x : Nat) (s : Bool) (h : x % 2147483648 < 2139095040) (hs : s = (x / 2147483648 % 2 == 1)) : FloatKind.f32.decode (single.word s (x % 2147483648)) = FloatKind.f32.decode x := by
  have e1 : single.signWeight = 2147483648 := by kernel_rfl
  obtain ⟨r, hr⟩ : ∃ r, r = x % 2147483648 := ⟨_, rfl⟩
  rw [← hr] at h ⊢
  have hw : single.word s r % 2147483648 = r ∧ (single.word s r / 2147483648 % 2 == 1) = s := by
    unfold Format.word
    rw [e1]
    cases s
    · simp only [Bool.false_eq_true, if_false]
      refine ⟨by omega, ?_⟩
      have : (0 + r) / 2147483648 % 2 = 0 := by omega
      have h2 : r / 2147483648 % 2 = 0 := by omega
      simp [h2]
    · simp only [if_true]
      refine ⟨by omega, ?_⟩
      have h2 : (2147483648 + r) / 2147483648 % 2 = 1 := by omega
      rw [h2]; rfl
  obtain ⟨w1, w2⟩ := hw
  rw [read32 _ (by rw [w1]; exact h), read32 x (by rw [← hr]; exact h), w1, w2, ← hr, hs]
theorem add_form (x p : Nat) : fadd .f32 x p = fres .f32 (((FloatKind.f32.decode x).sum (FloatKind.f32.decode p)).map FloatKind.f32.format.write) := rfl
theorem like_add0 (x : Nat) : Like x (fadd .f32 x 0) := by
  have hzero : FloatKind.f32.decode 0 = .number false 0 (-149) := by kernel_rfl
  rw [add_form, hzero]
  rcases read_f32 x with ⟨s, m, i, hd, hm, hi1, hi2⟩ | ⟨s, hd⟩ | ⟨s, f, hd⟩
  · by_cases h0 : x % 2147483648 = 0
    · -- nothing
      right; left
      have hx := read32 x (by rw [h0]; omega)
      rw [h0, if_pos (by omega)] at hx
      rw [hx]
      simp only [Datum.sum]
      have hz : ∀ (s : Bool) (e : Nat), signed s 0 e = 0 := fun s e => by unfold signed; cases s <;> simp
      rw [hz, hz, if_pos (by rfl)]
      have hn : ((0 : Int) + 0).natAbs = 0 := rfl
      rw [hn]
      simp only [Option.map_some, fres, Option.getD_some, write_zero, canon_num (word0_nan _)]
      exact ⟨_, _, _, _, rfl, zero_dec _, rfl⟩
    · left
      have hlt : x % 2147483648 < 2139095040 := by
        rcases Nat.lt_or_ge (x % 2147483648) 2139095040 with h | h
        · exact h
        · exfalso
          by_cases he : x % 2147483648 = 2139095040
          · have : FloatKind.f32.decode x = .infinity (x / 2147483648 % 2 == 1) := by
              have e1 : single.signWeight = 2147483648 := by kernel_rfl
              have e2 : single.binade = 8388608 := by kernel_rfl
              have e3 : single.infRung = 2139095040 := by kernel_rfl
              unfold FloatKind.decode FloatKind.format Format.read
              simp only [e1, e2, e3]
              rw [if_neg (by omega), if_neg (by omega), if_pos he]
            rw [this] at hd; cases hd
          · have hn : isNan .f32 x = true := by rw [isNan_f32]; simp; omega
            unfold isNan at hn
            rw [hd] at hn; cases hn
      obtain ⟨m', i', hd', hm', hL, hj1, hj2, hw⟩ := parts32 x hlt h0
      rw [hd']
      obtain ⟨k, hk⟩ : ∃ k : Nat, (k : Int) = i' + 149 := ⟨(i' + 149).toNat, by omega⟩
      have hsum : ∀ s : Bool, Datum.sum (.number s m' i') (.number false 0 (-149)) = some (.number s (m' * 2 ^ k) (i' - k)) := fun s => by
        simp only [Datum.sum]
        have h1 : min i' (-149 : Int) = -149 := Int.min_eq_right (by omega)
        have h2 : ((-149 : Int) - -149).toNat = 0 := by omega
        have h3 : (i' - -149).toNat = k := by omega
        have h4 : i' - (k : Int) = -149 := by omega
        rw [h1, h2, h3, h4]
        have h6 : m' * 2 ^ k ≠ 0 := Nat.mul_ne_zero hm' (Nat.ne_of_gt (Nat.two_pow_pos k))
        have h5 : signed s m' k + signed false 0 0 = if s = true then -((m' * 2 ^ k : Nat) : Int) else ((m' * 2 ^ k : Nat) : Int) := by
          unfold signed
          cases s <;> simp [Nat.shiftLeft_eq]
        rw [h5]
        cases s with
        | true =>
          simp only [if_true]
          have h7 : ¬ -((m' * 2 ^ k : Nat) : Int) = 0 := by omega
          have h8 : decide (-((m' * 2 ^ k : Nat) : Int) < 0) = true := decide_eq_true (by omega)
          rw [if_neg h7, Int.natAbs_neg, Int.natAbs_natCast, h8]
        | false =>
          simp only [Bool.false_eq_true, if_false]
          have h7 : ¬ ((m' * 2 ^ k : Nat) : Int) = 0 := by omega
          have h8 : decide (((m' * 2 ^ k : Nat) : Int) < 0) = false := decide_eq_false (by omega)
          rw [if_neg h7, Int.natAbs_natCast, h8]
      rw [hsum]
      have hwr : FloatKind.f32.format.write (.number (x / 2147483648 % 2 == 1) (m' * 2 ^ k) (i' - k)) = single.word (x / 2147483648 % 2 == 1) (x % 2147483648) := hw _ k
      have hdw := dec_word x _ hlt rfl
      have hnn : isNan .f32 (single.word (x / 2147483648 % 2 == 1) (x % 2147483648)) = false := by
        unfold isNan
        rw [hdw, hd']; rfl
      simp only [Option.map_some, fres, Option.getD_some, hwr, canon_num hnn]
      rw [hdw, hd']
  · left
    rw [hd]
    cases s <;> kernel_rfl
  · right; right
    rw [hd]
    exact ⟨s, f, _, _, rfl, (decode_qnan .f32).choose_spec.choose_spec⟩
end Go.Proofs.Ytflodniglbgkhaa.AM
