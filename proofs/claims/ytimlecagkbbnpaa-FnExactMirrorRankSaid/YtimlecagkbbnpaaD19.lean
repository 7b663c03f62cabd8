/- A root of a single is within singles. -/
import Derived.Test.YtimlecagkbbnpaaBase
import Derived.Test.YtimlecagkbbnpaaD18
set_option linter.unusedSimpArgs false
set_option linter.unusedVariables false
namespace Go.Proofs.Ytimlecagkbbnpaa.AM
open Ieee

theorem pow_lt_log {m : Nat} (h : m ≠ 0) : m < 2 ^ (m.log2 + 1) := (Nat.log2_lt h).1 (by omega)
theorem even_le (neg : Bool) (n drop b : Nat) (hn : n ≠ 0) (hb : n.log2 + 1 ≤ drop + b) : Toward.even.cut neg n drop ≤ 2 ^ b := by
  have hlt := pow_lt_log hn
  have hq : n / (1 <<< min drop (n.log2 + 2)) + 1 ≤ 2 ^ b := by
    rw [Nat.shiftLeft_eq, Nat.one_mul]
    have h1 : n / 2 ^ min drop (n.log2 + 2) < 2 ^ b := by
      rw [Nat.div_lt_iff_lt_mul (Nat.two_pow_pos _), ← Nat.pow_add]
      exact Nat.lt_of_lt_of_le hlt (Nat.pow_le_pow_right (by omega) (by omega))
    omega
  unfold Toward.cut
  simp only
  have : ∀ c : Bool, c.toNat ≤ 1 := fun c => by cases c <;> simp
  exact Nat.le_trans (Nat.add_le_add_left (this _) _) hq
theorem kept_le (f : Format) (neg : Bool) (mag : Nat) (place last : Int) (hm : mag ≠ 0) (hl : place + mag.log2 - f.fractionBits ≤ last) :
    Toward.even.cut neg (mag <<< (place - last).toNat) (last - place).toNat ≤ 2 ^ (f.fractionBits + 1) := by
  by_cases h : last ≤ place
  · have h0 : (last - place).toNat = 0 := by omega
    rw [h0, cut_exact, Nat.shiftLeft_eq]
    have h1 : (place - last).toNat ≤ f.fractionBits - mag.log2 := by omega
    have h2 : mag.log2 ≤ f.fractionBits := by omega
    have := Nat.mul_lt_mul_of_pos_right (pow_lt_log hm) (Nat.two_pow_pos (f.fractionBits - mag.log2))
    rw [← Nat.pow_add, show mag.log2 + 1 + (f.fractionBits - mag.log2) = f.fractionBits + 1 by omega] at this
    exact Nat.le_trans (Nat.mul_le_mul_left _ (Nat.pow_le_pow_right (by omega) h1)) (Nat.le_of_lt this)
  · have h0 : (place - last).toNat = 0 := by omega
    rw [h0, show mag <<< 0 = mag from rfl]
    exact even_le neg mag _ _ hm (by omega)
/-- The rung of a number that is not great. -/
theorem write_rung (f : Format) (s : Bool) (m : Nat) (i : Int) (K : Nat) (h1 : i + m.log2 - f.fractionBits ≤ K + f.leastPlace) :
    ∃ r, f.write (.number s m i) = f.word s r ∧ r ≤ K * f.binade + 2 ^ (f.fractionBits + 1) := by
  unfold Format.write Format.nearest
  simp only
  by_cases hz : m = 0
  · rw [if_pos hz]; exact ⟨0, rfl, Nat.zero_le _⟩
  · rw [if_neg hz]
    refine ⟨_, rfl, Nat.le_trans (Nat.min_le_left _ _) ?_⟩
    have hl : max (i + (m.log2 : Int) - (f.fractionBits : Int)) f.leastPlace ≤ K + f.leastPlace := by omega
    have := kept_le f s m i (max (i + (m.log2 : Int) - (f.fractionBits : Int)) f.leastPlace) hz (by omega)
    have h2 : (max (i + (m.log2 : Int) - (f.fractionBits : Int)) f.leastPlace - f.leastPlace).toNat ≤ K := by omega
    exact Nat.add_le_add (Nat.mul_le_mul_right _ h2) this

theorem read64 (x K : Nat) (h : x % 9223372036854775808 < (K + 1) * 4503599627370496) (hK : K < 2046) : ∃ s m i, FloatKind.f64.decode x = .number s m i ∧ m < 2 ^ 53 ∧ i ≤ -1075 + (K + 1 : Nat) := by
  have e1 : double.signWeight = 9223372036854775808 := by kernel_rfl
  have e2 : double.binade = 4503599627370496 := by kernel_rfl
  have e3 : double.infRung = 9218868437227405312 := by kernel_rfl
  have e4 : double.leastPlace = -1074 := by kernel_rfl
  unfold FloatKind.decode FloatKind.format Format.read
  simp only [e1, e2, e3, e4]
  split
  · exact ⟨_, _, _, rfl, by omega, by omega⟩
  · rw [if_pos (by omega)]
    exact ⟨_, _, _, rfl, by omega, by omega⟩
theorem word64 (s : Bool) (r : Nat) (h : r < 9218868437227405312) : (double.word s r) % 9223372036854775808 = r ∧ isNan .f64 (double.word s r) = false := by
  have e1 : double.signWeight = 9223372036854775808 := by kernel_rfl
  have hm : (double.word s r) % 9223372036854775808 = r := by
    unfold Format.word
    rw [e1]
    split <;> omega
  exact ⟨hm, by rw [isNan_f64, hm]; simp; omega⟩
theorem enc64 (s : Bool) (m : Nat) (i : Int) (K : Nat) (hK : K < 2000) (h : i + m.log2 - 52 ≤ K - 1074) : ∃ r, FloatKind.f64.encode (.number s m i) = double.word s r ∧ r ≤ (K + 2) * 4503599627370496 := by
  have e2 : double.binade = 4503599627370496 := by kernel_rfl
  have e4 : double.leastPlace = -1074 := by kernel_rfl
  have e5 : double.fractionBits = 52 := rfl
  obtain ⟨r, h1, h2⟩ := write_rung double s m i K (by rw [e4, e5]; omega)
  rw [e2, e5] at h2
  have h53 : (2 : Nat) ^ (52 + 1) = 9007199254740992 := by decide
  exact ⟨r, h1, by omega⟩
theorem log_lt {m k : Nat} (h : m < 2 ^ k) (hm : m ≠ 0) : m.log2 < k := (Nat.log2_lt hm).2 h
theorem wid_read (x : Nat) (h : isNum .f32 x = true) : ∃ s m i, FloatKind.f64.decode (wid x) = .number s m i ∧ m < 2 ^ 53 ∧ i ≤ 77 := by
  unfold isNum at h
  rcases read_f32 x with ⟨s, m, i, hd, hm, h1, h2⟩ | ⟨s, hd⟩ | ⟨s, f, hd⟩
  · have hl : m.log2 ≤ 23 := by
      by_cases hz : m = 0
      · subst hz; decide
      · have := log_lt hm hz; omega
    obtain ⟨r, k1, k2⟩ := enc64 s m i 1149 (by omega) (by omega)
    obtain ⟨w1, w2⟩ := word64 s r (by omega)
    have hw : wid x = double.word s r := by
      unfold wid fconv
      rw [if_neg (by decide), hd]
      simp only
      have := widen_num s m i hm h1 h2
      rw [if_neg (by rw [isInf_f64_num this]; simp), k1]
      simp only [Option.getD_some, canon_num w2]
    obtain ⟨s', m', i', g1, g2, g3⟩ := read64 (wid x) 1151 (by rw [hw, w1]; omega) (by omega)
    exact ⟨s', m', i', g1, g2, by omega⟩
  · rw [hd] at h; cases h
  · rw [hd] at h; cases h

theorem rootFrom_le (n : Nat) : ∀ (todo root : Nat), root * root ≤ n → Datum.rootFrom n todo root * Datum.rootFrom n todo root ≤ n
  | 0, root, h => h
  | todo + 1, root, h => by
    unfold Datum.rootFrom
    simp only
    split
    · rename_i h2; exact rootFrom_le n todo _ h2
    · exact rootFrom_le n todo _ h

/-- A number that is not great is within singles. -/
theorem fconv_small (x : Nat) (s : Bool) (m : Nat) (i : Int) (hd : FloatKind.f64.decode x = .number s m i) (hm : m < 2 ^ 53) (hi : i ≤ 50) : ∃ y, fconv .f64 x .f32 = some y := by
  unfold fconv
  rw [if_neg (by decide), hd]
  simp only
  have e1 : single.signWeight = 2147483648 := by kernel_rfl
  have e2 : single.binade = 8388608 := by kernel_rfl
  have e3 : single.infRung = 2139095040 := by kernel_rfl
  have e4 : single.leastPlace = -149 := by kernel_rfl
  have e5 : single.fractionBits = 23 := rfl
  have hl : m.log2 ≤ 52 := by
    by_cases hz : m = 0
    · subst hz; decide
    · have := log_lt hm hz; omega
  obtain ⟨r, h1, h2⟩ := write_rung single s m i 228 (by rw [e4, e5]; omega)
  rw [e2, e5] at h2
  have h24 : (2 : Nat) ^ (23 + 1) = 16777216 := by decide
  have hw : FloatKind.f32.encode (.number s m i) = single.word s r := h1
  rw [hw]
  have hn : (FloatKind.f32.decode (single.word s r)).isInfinity = false := by
    have hmod : single.word s r % 2147483648 = r := by
      unfold Format.word
      rw [e1]
      split <;> omega
    unfold FloatKind.decode FloatKind.format Format.read
    simp only [e1, e2, e3, hmod]
    split
    · rfl
    · rw [if_pos (by omega)]; rfl
  rw [if_neg (by rw [hn]; simp)]
  exact ⟨_, rfl⟩

theorem sqrt_conv (x : Nat) : ∃ y, fconv .f64 (fsqrt (wid x)) .f32 = some y := by
  have key : ∀ b, FloatKind.f64.format.sqrt b = ((FloatKind.f64.decode b).root 54).map FloatKind.f64.format.write := fun _ => rfl
  have nan : ∃ y, fconv .f64 (qnan .f64) .f32 = some y := ⟨_, rfl⟩
  cases hn : isNum .f32 x with
  | false =>
    unfold isNum at hn
    rcases read_f32 x with ⟨s, m, i, hd, _⟩ | ⟨s, hd⟩ | ⟨s, f, hd⟩
    · rw [hd] at hn; cases hn
    · have : wid x = canon .f64 (FloatKind.f64.encode (.infinity s)) := by
        unfold wid fconv
        rw [if_neg (by decide), hd]; rfl
      rw [this]
      cases s
      · exact Option.isSome_iff_exists.1 (by kernel_rfl)
      · exact Option.isSome_iff_exists.1 (by kernel_rfl)
    · have : wid x = qnan .f64 := by
        unfold wid fconv
        rw [if_neg (by decide), hd]; rfl
      rw [this]
      exact Option.isSome_iff_exists.1 (by kernel_rfl)
  | true =>
    obtain ⟨s, m, i, h1, h2, h3⟩ := wid_read x hn
    unfold fsqrt fres
    rw [key, h1]
    unfold Datum.root
    split
    · rename_i h; cases h
    · rename_i h; cases h
    rename_i s' m' i' h
    cases h
    by_cases hz : m = 0
    · subst hz
      simp only [if_true, Option.map_some, Option.getD_some]
      have hw : FloatKind.f64.format.write (.number s 0 i) = double.word s 0 := by
        show double.write _ = _
        unfold Format.write
        exact nearest_zero _ _ _
      rw [hw, canon_num (word64 s 0 (by omega)).2]
      cases s
      · exact Option.isSome_iff_exists.1 (by kernel_rfl)
      · exact Option.isSome_iff_exists.1 (by kernel_rfl)
    · rw [if_neg hz]
      cases s with
      | true => exact nan
      | false =>
        simp only [Bool.false_eq_true, if_false, Option.map_some, Option.getD_some]
        have hl := log_lt h2 hz
        obtain ⟨e, he⟩ : ∃ e, e = 2 * 54 - m.log2 + ((i - ((2 * 54 - m.log2 : Nat) : Int)) % 2).toNat := ⟨_, rfl⟩
        have he2 : e ≤ 2 * 54 - m.log2 + 1 ∧ 2 * 54 - m.log2 ≤ e := by omega
        rw [← he]
        obtain ⟨n, hnn⟩ : ∃ n, n = m <<< e := ⟨_, rfl⟩
        rw [← hnn]
        have hnlt : n < 2 ^ 110 := by
          rw [hnn, Nat.shiftLeft_eq]
          have := Nat.mul_lt_mul_of_pos_right (pow_lt_log hz) (Nat.two_pow_pos e)
          rw [← Nat.pow_add] at this
          exact Nat.lt_of_lt_of_le this (Nat.pow_le_pow_right (by omega) (by omega))
        have hr := rootFrom_le n (n.log2 / 2 + 1) 0 (Nat.zero_le _)
        obtain ⟨q, hq⟩ : ∃ q, q = Datum.rootFrom n (n.log2 / 2 + 1) 0 := ⟨_, rfl⟩
        rw [← hq] at hr ⊢
        have hq55 : q < 2 ^ 55 := by
          rcases Nat.lt_or_ge q (2 ^ 55) with h | h
          · exact h
          · exfalso
            have := Nat.mul_le_mul h h
            rw [← Nat.pow_add] at this
            omega
        obtain ⟨g, hg⟩ : ∃ g, g = 2 * q + (q * q != n).toNat := ⟨_, rfl⟩
        have hg1 : g < 2 ^ 56 := by
          have : ∀ c : Bool, c.toNat ≤ 1 := fun c => by cases c <;> simp
          have := this (q * q != n)
          have h56 : (2 : Nat) ^ 56 = 2 * 2 ^ 55 := by decide
          omega
        rw [← hg]
        have hgl : g.log2 ≤ 55 := by
          by_cases hz2 : g = 0
          · rw [hz2]; decide
          · have := log_lt hg1 hz2; omega
        obtain ⟨p, hp⟩ : ∃ p : Int, p = (i - (e : Int)) / 2 - 1 := ⟨_, rfl⟩
        rw [← hp]
        obtain ⟨r, k1, k2⟩ := enc64 false g p 1095 (by omega) (by omega)
        obtain ⟨w1, w2⟩ := word64 false r (by omega)
        have hw : FloatKind.f64.format.write (.number false g p) = double.word false r := k1
        rw [hw, canon_num w2]
        obtain ⟨s', m', i', g1, g2, g3⟩ := read64 (double.word false r) 1097 (by rw [w1]; omega) (by omega)
        exact fconv_small _ s' m' i' g1 g2 (by omega)

/-- Two loops that count go the same way. -/
theorem for2 {σ ρ : Type} {T T' : Int × σ → Option ((Int × σ) ⊕ ρ)} {n : Nat} (I : Nat → σ → Prop) (Q : ρ → Prop) {s : σ} (h0 : I 0 s)
    (h : ∀ (i : Nat) (s : σ), i < n → I i s → (∃ s', T ((i : Int), s) = some (.inl (((i + 1 : Nat) : Int), s')) ∧ T' ((i : Int), s) = some (.inl (((i + 1 : Nat) : Int), s')) ∧ I (i + 1) s') ∨ ∃ r, T ((i : Int), s) = some (.inr r) ∧ T' ((i : Int), s) = some (.inr r) ∧ Q r)
    (he : ∀ s : σ, I n s → ∃ r, T ((n : Int), s) = some (.inr r) ∧ T' ((n : Int), s) = some (.inr r) ∧ Q r) : ∃ r, whileM T ((0 : Int), s) = some r ∧ whileM T' ((0 : Int), s) = some r ∧ Q r := by
  have key : ∀ (d i : Nat) (s : σ), i + d = n → I i s → ∃ r, whileM T ((i : Int), s) = some r ∧ whileM T' ((i : Int), s) = some r ∧ Q r := by
    intro d
    induction d with
    | zero =>
      intro i s hi hI
      have : i = n := by omega
      subst this
      obtain ⟨r, h1, h2, h3⟩ := he s hI
      exact ⟨r, by rw [whileM_eq, h1], by rw [whileM_eq, h2], h3⟩
    | succ d ih =>
      intro i s hi hI
      rcases h i s (by omega) hI with ⟨s', h1, h2, h3⟩ | ⟨r, h1, h2, h3⟩
      · obtain ⟨r, k1, k2, k3⟩ := ih (i + 1) s' (by omega) h3
        exact ⟨r, by rw [whileM_eq, h1]; exact k1, by rw [whileM_eq, h2]; exact k2, k3⟩
      · exact ⟨r, by rw [whileM_eq, h1], by rw [whileM_eq, h2], h3⟩
  exact key n 0 s (by omega) h0
end Go.Proofs.Ytimlecagkbbnpaa.AM
