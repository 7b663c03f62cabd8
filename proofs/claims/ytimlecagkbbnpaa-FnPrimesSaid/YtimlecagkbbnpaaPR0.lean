/- Primes, remainders, and numbers that lead back. -/
import Derived.Test.YtimlecagkbbnpaaWH0
set_option linter.unusedSimpArgs false
set_option linter.unusedVariables false
set_option maxHeartbeats 1000000
set_option maxRecDepth 100000
namespace Go.Proofs.Ytimlecagkbbnpaa.AM

/-- Is there a divisor among the k numbers from d on whose square is not beyond? -/
def dvB (p : Nat) : Nat → Nat → Bool
  | _, 0 => false
  | d, k + 1 => (match Nat.ble (d * d) p with | true => (match Nat.beq (p % d) 0 with | true => true | false => dvB p (d + 1) k) | false => false)
def prB (p : Nat) : Bool := Nat.ble 2 p && (Nat.ble p 997 && !dvB p 2 30)
theorem mulN (a b : Nat) : (a : Int) * (b : Int) = ((a * b : Nat) : Int) := (Int.natCast_mul a b).symm
theorem primeLoop {T : Int → Option (Int ⊕ (Unit ⊕ Unit))} {p : Nat} (hp : p ≤ 997)
    (hT : ∀ d : Nat, 2 ≤ d → d ≤ 32 → T (d : Int) = if Nat.ble (d * d) p = true then (if Nat.beq (p % d) 0 = true then some (.inr (.inl ())) else some (.inl ((d + 1 : Nat) : Int))) else some (.inr (.inr ()))) :
    ∀ (k d : Nat), d + k = 32 → 2 ≤ d → whileM T (d : Int) = some (if dvB p d k = true then .inl () else .inr ())
  | 0, d, h, h2 => by
    have hd : d = 32 := by omega
    subst hd
    have : Nat.ble (32 * 32) p = false := by
      cases hb : Nat.ble (32 * 32) p with
      | false => rfl
      | true => have := Nat.le_of_ble_eq_true hb; omega
    rw [whileM_eq, hT 32 (by omega) (by omega), this]; rfl
  | k + 1, d, h, h2 => by
    have hT' := hT d h2 (by omega)
    rcases Bool.eq_false_or_eq_true (Nat.ble (d * d) p) with hb | hb
    · rw [hb, if_pos rfl] at hT'
      rcases Bool.eq_false_or_eq_true (Nat.beq (p % d) 0) with hc | hc
      · rw [hc, if_pos rfl] at hT'
        rw [wi_inr hT']
        simp only [dvB, hb, hc, if_true]
      · rw [hc] at hT'
        refine wi_inl hT' ?_
        simp only [dvB, hb, hc]
        exact primeLoop hp hT k (d + 1) (by omega) (by omega)
    · rw [hb] at hT'
      rw [wi_inr hT']
      simp only [dvB, hb, Bool.false_eq_true, if_false]
theorem bleN (a b : Nat) : decide ((a : Int) ≤ (b : Int)) = Nat.ble a b := by
  cases h : Nat.ble a b with
  | true => have := Nat.le_of_ble_eq_true h; exact decide_eq_true (by omega)
  | false => exact decide_eq_false fun e => by rw [Nat.ble_eq_true_of_le (by omega)] at h; cases h
theorem beq0N (a : Nat) : decide ((a : Int) = 0) = Nat.beq a 0 := by
  cases h : Nat.beq a 0 with
  | true => have := Nat.eq_of_beq_eq_true h; subst this; rfl
  | false => exact decide_eq_false fun e => by have : a = 0 := by omega
                                               subst this; cases h
theorem primeI (p : Int) (h1 : -9223372036854775808 ≤ p) (h2 : p < 9223372036854775808) : impl_IsPrime_g p = some (decide (0 ≤ p) && prB p.toNat) := by
  simp only [impl_IsPrime_g, impl_IsPrime_T, Tree.run, if_true, impl_IsPrime_l0_g, inR]
  by_cases hr : 2 ≤ p ∧ p ≤ 997
  · obtain ⟨hl, hr⟩ := hr
    obtain ⟨n, rfl⟩ : ∃ n : Nat, p = n := ⟨p.toNat, by omega⟩
    have hT : ∀ d : Nat, 2 ≤ d → d ≤ 32 → (impl_IsPrime_l0_T (n : Int) (d : Int)).run = if Nat.ble (d * d) n = true then (if Nat.beq (n % d) 0 = true then some (.inr (.inl ())) else some (.inl ((d + 1 : Nat) : Int))) else some (.inr (.inr ())) := by
      intro d hd1 hd2
      have hdd : d * d ≤ 1024 := by have := Nat.mul_le_mul hd2 hd2; omega
      have e0 : decide ((d : Int) = 0) = false := decide_eq_false (by omega)
      simp only [impl_IsPrime_l0_T, Tree.run, mulN, wN (show d * d ≤ 4611686018427387904 by omega), bleN, e0, tmodN, beq0N, if_true, w_succ (show d < 4611686018427387904 by omega), Bool.not_false]
    have := primeLoop (T := fun s => (impl_IsPrime_l0_T (n : Int) s).run) (by omega) hT 30 2 rfl (Nat.le_refl 2)
    rw [show ((2 : Nat) : Int) = 2 from rfl] at this
    rw [this]
    have c1 : decide ((0 : Int) ≤ (n : Int)) = true := decide_eq_true (by omega)
    have c2 : Nat.ble 2 n = true := Nat.ble_eq_true_of_le (by omega)
    have c3 : Nat.ble n 997 = true := Nat.ble_eq_true_of_le (by omega)
    have c4 : decide ((2 : Int) ≤ (n : Int)) = true := decide_eq_true hl
    have c5 : decide ((n : Int) ≤ 997) = true := decide_eq_true hr
    simp only [prB, c1, Int.toNat_natCast, c2, c3, c4, c5, Bool.true_and, Option.bind_some, Bool.not_true, Bool.false_eq_true, if_false]
    cases dvB n 2 30 <;> simp [Tree.run]
  · have hb : (decide (0 ≤ p) && prB p.toNat) = false := by
      by_cases h0 : 0 ≤ p
      · have : Nat.ble 2 p.toNat = false ∨ Nat.ble p.toNat 997 = false := by
          by_cases h2 : 2 ≤ p
          · refine .inr ?_
            cases hb : Nat.ble p.toNat 997 with
            | false => rfl
            | true => have := Nat.le_of_ble_eq_true hb; omega
          · refine .inl ?_
            cases hb : Nat.ble 2 p.toNat with
            | false => rfl
            | true => have := Nat.le_of_ble_eq_true hb; omega
        rcases this with h | h <;> simp [prB, h]
      · simp [h0]
    have h5 : (decide ((2 : Int) ≤ p) && decide (p ≤ (997 : Int))) = false := by
      by_cases h2 : 2 ≤ p
      · have : ¬ p ≤ 997 := fun e => hr ⟨h2, e⟩
        simp [this]
      · simp [h2]
    rw [hb, h5]; simp
theorem prB_le {p : Nat} (h : prB p = true) : 2 ≤ p ∧ p ≤ 997 := by
  simp only [prB, Bool.and_eq_true] at h
  exact ⟨Nat.le_of_ble_eq_true h.1, Nat.le_of_ble_eq_true h.2.1⟩

theorem tmod_emod {x : Int} {p : Nat} (hp : 0 < p) : Int.tmod x p = x % p ∨ (Int.tmod x p = x % p - p ∧ Int.tmod x p < 0) := by
  have h1 : x % p < p := Int.emod_lt_of_pos x (by omega)
  have e := Int.tmod_eq_emod (a := x) (b := (p : Int))
  split at e
  · exact .inl (by simpa using e)
  · have e2 : Int.tmod x p = x % p - p := by simpa using e
    exact .inr ⟨e2, by omega⟩
theorem restI (x : Int) {p : Nat} (h2 : 2 ≤ p) (hp : p ≤ 997) : impl_rest_g x p = some (x % p) := by
  have h0 := Int.emod_nonneg x (show (p : Int) ≠ 0 by omega)
  have h1 : x % p < p := Int.emod_lt_of_pos x (by omega)
  have e0 : decide ((p : Int) = 0) = false := decide_eq_false (by omega)
  simp only [impl_rest_g, impl_rest_T, Tree.run, e0, Bool.not_false, if_true, Option.some.injEq]
  rcases tmod_emod (x := x) (show 0 < p by omega) with e | ⟨e, hl⟩
  · rw [e, w64 (by omega) (by omega), Int.tmod_eq_emod_of_nonneg (by omega), Int.add_emod_right, Int.emod_emod_of_dvd _ (Int.dvd_refl _)]
  · rw [e, w64 (by omega) (by omega), Int.tmod_eq_emod_of_nonneg (by omega)]
    rw [show x % p - p + p = x % p by omega, Int.emod_emod_of_dvd _ (Int.dvd_refl _)]
theorem md_range (x : Int) {p : Nat} (h : 0 < p) : 0 ≤ x % p ∧ x % p < p := ⟨Int.emod_nonneg x (by omega), Int.emod_lt_of_pos x (by omega)⟩
theorem md_id {x : Int} {p : Nat} (h0 : 0 ≤ x) (h1 : x < p) : x % p = x := Int.emod_eq_of_lt h0 h1

/-! numbers that lead back -/
def fermB : Bool := (List.range 998).all fun p => !prB p || (List.range p).all fun a => Nat.beq a 0 || Nat.beq (a * (a ^ (p - 2) % p) % p) 1
theorem ferm_all : fermB = true := by kernel_rfl
theorem ferm {p a : Nat} (hp : prB p = true) (h0 : 0 < a) (ha : a < p) : a * (a ^ (p - 2) % p) % p = 1 := by
  have h1 := List.all_eq_true.1 ferm_all p (List.mem_range.2 (by have := (prB_le hp).2; omega))
  rw [hp] at h1
  simp only [Bool.not_true, Bool.false_or] at h1
  have h2 := List.all_eq_true.1 h1 a (List.mem_range.2 ha)
  have h3 : Nat.beq a 0 = false := by
    cases hb : Nat.beq a 0 with
    | false => rfl
    | true => have := Nat.eq_of_beq_eq_true hb; omega
  rw [h3, Bool.false_or] at h2
  exact Nat.eq_of_beq_eq_true h2
/-- What leads a number back. -/
def bk (a p : Nat) : Nat := a ^ (p - 2) % p
theorem bk_lt {a p : Nat} (h : 0 < p) : bk a p < p := Nat.mod_lt _ h
theorem bk_pos {a p : Nat} (hp : prB p = true) (h0 : 0 < a) (ha : a < p) : 0 < bk a p := by
  have := ferm hp h0 ha
  rcases Nat.eq_zero_or_pos (bk a p) with h | h
  · unfold bk at h; rw [h] at this; simp at this
  · exact h
theorem bk_least {a p n : Nat} (hp : prB p = true) (h0 : 0 < a) (ha : a < p) (hn : n < bk a p) : a * n % p ≠ 1 := by
  intro h
  have h1 := ferm hp h0 ha
  have hb := bk_lt (a := a) (p := p) (by omega)
  have hp2 := (prB_le hp).1
  have e : bk a p * (a * n) % p = n * (a * bk a p) % p := by congr 1; rw [Nat.mul_left_comm, Nat.mul_left_comm n, Nat.mul_comm n]
  rw [Nat.mul_mod (bk a p), h, Nat.mul_mod n, show a * bk a p % p = 1 from h1, Nat.mul_one, Nat.mod_mod, Nat.mul_one, Nat.mod_mod, Nat.mod_eq_of_lt hb, Nat.mod_eq_of_lt (by omega)] at e
  omega
theorem backI {a p : Nat} (hp : prB p = true) (h0 : 0 < a) (ha : a < p) : impl_backOver_g (a : Int) (p : Int) = some (bk a p : Int) := by
  obtain ⟨h2, h9⟩ := prB_le hp
  have e0 : decide ((p : Int) = 0) = false := decide_eq_false (by omega)
  have hb := bk_lt (a := a) (p := p) (by omega)
  have step : ∀ n : Nat, n ≤ 997 → (impl_backOver_l0_T (p : Int) (a : Int) (n : Int)).run = if a * n % p = 1 then some (.inr (n : Int)) else some (.inl ((n + 1 : Nat) : Int)) := by
    intro n hn
    have hle : a * n ≤ 997 * 997 := Nat.mul_le_mul (by omega) hn
    have e1 : IntKind.i64.wrap ((a : Int) * (n : Int)) = ((a * n : Nat) : Int) := by rw [mulN, wN (by omega)]
    have e2 : decide (((a * n % p : Nat) : Int) = 1) = decide (a * n % p = 1) := by
      by_cases h : a * n % p = 1
      · rw [h]; rfl
      · rw [decide_eq_false h]; exact decide_eq_false (by omega)
    simp only [impl_backOver_l0_T, Tree.run, e0, e1, tmodN, e2, w_succ (show n < 4611686018427387904 by omega), Bool.not_false, if_true]
    by_cases h : a * n % p = 1 <;> simp [h]
  have key : ∀ k n : Nat, n + k = bk a p → whileM (fun s => (impl_backOver_l0_T (p : Int) (a : Int) s).run) (n : Int) = some (bk a p : Int) := by
    intro k
    induction k with
    | zero =>
      intro n hn
      have hn : n = bk a p := by omega
      subst hn
      refine wi_inr (T := fun s => (impl_backOver_l0_T (p : Int) (a : Int) s).run) ?_
      show (impl_backOver_l0_T (p : Int) (a : Int) _).run = _
      rw [step _ (by omega), if_pos (show a * bk a p % p = 1 from ferm hp h0 ha)]
    | succ k ih =>
      intro n hn
      refine wi_inl (T := fun s => (impl_backOver_l0_T (p : Int) (a : Int) s).run) (s' := ((n + 1 : Nat) : Int)) ?_ (ih (n + 1) (by omega))
      show (impl_backOver_l0_T (p : Int) (a : Int) _).run = _
      rw [step _ (by omega), if_neg (bk_least hp h0 ha (by omega))]
  have h1 := key (bk a p - 1) 1 (by have := bk_pos hp h0 ha; omega)
  simp only [impl_backOver_g, impl_backOver_T, Tree.run, restI (a : Int) h2 h9, md_id (show (0 : Int) ≤ (a : Int) by omega) (show (a : Int) < (p : Int) by omega), Option.bind_some, if_true, impl_backOver_l0_g]
  rw [show (1 : Int) = ((1 : Nat) : Int) from rfl, h1]
  rfl
end Go.Proofs.Ytimlecagkbbnpaa.AM
