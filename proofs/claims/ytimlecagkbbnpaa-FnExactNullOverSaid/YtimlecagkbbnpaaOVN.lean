/- Elimination over a prime: both sides (without a list). -/
import Derived.Test.YtimlecagkbbnpaaOV0
set_option linter.unusedSimpArgs false
set_option linter.unusedVariables false
set_option maxHeartbeats 2000000
set_option maxRecDepth 100000
namespace Go.Proofs.Ytimlecagkbbnpaa.AM

theorem l8B_i1 {n m p r b : Nat} {pool : List (List Int)} {ix : List Nat} (h2 : 2 ≤ p) (h9 : p ≤ 997) (hm : m ≤ 7) (hS : Shape n m p pool ix) (hr : r < n) (hb : b < p) (d cc : Int) (pv : List Int) :
    ∃ pool', spec_l06Over_l8_g p d cc r b ix pv ((0 : Int), pool) = some pool' ∧ impl_Whole_over_i1_l8_g p d cc r b m ix pv ((0 : Int), pool) = some pool' ∧ Shape n m p pool' ix := by
  have e0 : decide ((p : Int) = 0) = false := decide_eq_false (by omega)
  obtain ⟨q1, q2⟩ := hS.ib r hr
  have hil : ∀ s, Shape n m p s ix → ix.length = n := fun s h => h.il
  obtain ⟨s', k1, k2, k3⟩ := for2 (T1 := fun s => (spec_l06Over_l8_T p d cc r b ix pv s).run) (T2 := fun s => (impl_Whole_over_i1_l8_T p d cc r b m ix pv s).run) (n := m) (fun _ s => Shape n m p s ix) id
    (fun j s hj h => by
      have hl := h.rl _ q1 q2
      obtain ⟨x0, x1⟩ := h.rb _ q1 q2 j hj
      obtain ⟨x, hx⟩ : ∃ x : Nat, nth (nget s (nth ix r)) j = (x : Int) := ⟨(nth (nget s (nth ix r)) j).toNat, by omega⟩
      have hxb : x * b ≤ 997 * 997 := Nat.mul_le_mul (by omega) (by omega)
      have e1 : Int.tmod (IntKind.i64.wrap (nth (nget s (nth ix r)) j * (b : Int))) (p : Int) = ((x * b % p : Nat) : Int) := by rw [hx, mulN, wN (by omega), tmodN]
      have hlt : x * b % p < p := Nat.mod_lt _ (by omega)
      refine ⟨pt s (nth ix r) j ((x * b % p : Nat) : Int), ?_, ?_, h.pt q1 q2 hj ⟨by omega, by omega⟩⟩
      · simp only [spec_l06Over_l8_T, Tree.run, inb_nat, h.il, hr, hl, lt_nat', hj, decide_true, if_true, e0, Bool.not_false, Int.toNat_natCast, e1, w_succ (show j < 4611686018427387904 by omega)]
        rfl
      · simp only [impl_Whole_over_i1_l8_T, Tree.run, inb_nat, h.il, hr, hl, lt_nat', hj, decide_true, if_true, e0, Bool.not_false, Int.toNat_natCast, e1, w_succ (show j < 4611686018427387904 by omega)]
        rfl)
    (fun s h => by
      have hl := h.rl _ q1 q2
      constructor
      · simp only [spec_l06Over_l8_T, Tree.run, inb_nat, h.il, hr, hl, lt_nat', Nat.lt_irrefl, decide_true, decide_false, if_true, Int.toNat_natCast, Bool.false_eq_true, if_false]
        rfl
      · simp only [impl_Whole_over_i1_l8_T, Tree.run, lt_nat', Nat.lt_irrefl, decide_false, Bool.false_eq_true, if_false]
        rfl) m 0 pool (Nat.zero_add _) hS
  exact ⟨s', k1, k2, k3⟩
/-- One row by another: where it is turned, both sides do the same. -/
theorem l12B_i1 {n m p r i : Nat} {pool : List (List Int)} {ix : List Nat} (h2 : 2 ≤ p) (h9 : p ≤ 997) (hm : m ≤ 7) (hS : Shape n m p pool ix) (hr : r < n) (hi : i < n) (hne : i ≠ r) (q d cc e : Int) (pv : List Int) :
    ∃ pool', spec_l06Over_l12_g p d cc r i q ix pv ((0 : Int), pool) = some pool' ∧ impl_Whole_over_i1_l12_g p d cc r (nth ix i) q e i m ix pv ((0 : Int), pool) = some pool' ∧ Shape n m p pool' ix := by
  obtain ⟨q1, q2⟩ := hS.ib r hr
  obtain ⟨p1, p2⟩ := hS.ib i hi
  have en : decide ((i : Int) = (r : Int)) = false := decide_eq_false (by omega)
  obtain ⟨s', k1, k2, k3⟩ := for2 (T1 := fun s => (spec_l06Over_l12_T p d cc r i q ix pv s).run) (T2 := fun s => (impl_Whole_over_i1_l12_T p d cc r (nth ix i) q e i m ix pv s).run) (n := m) (fun _ s => Shape n m p s ix) id
    (fun j s hj h => by
      have hl := h.rl _ q1 q2
      have hl' := h.rl _ p1 p2
      obtain ⟨y, hy⟩ : ∃ y, y = IntKind.i64.wrap (nth (nget s (nth ix i)) j - IntKind.i64.wrap (q * nth (nget s (nth ix r)) j)) := ⟨_, rfl⟩
      refine ⟨pt s (nth ix i) j (y % p), ?_, ?_, h.pt p1 p2 hj (md_range y (by omega))⟩
      · simp only [spec_l06Over_l12_T, Tree.run, inb_nat, h.il, hr, hi, hl, hl', lt_nat', hj, decide_true, if_true, en, Bool.not_false, Int.toNat_natCast, ← hy, modS y h2 h9, Option.bind_some, w_succ (show j < 4611686018427387904 by omega)]
        rfl
      · simp only [impl_Whole_over_i1_l12_T, Tree.run, inb_nat, h.il, hr, hi, hl, hl', lt_nat', hj, decide_true, if_true, en, Bool.not_false, Int.toNat_natCast, ← hy, restI y h2 h9, Option.bind_some, w_succ (show j < 4611686018427387904 by omega)]
        rfl)
    (fun s h => by
      have hl := h.rl _ p1 p2
      constructor
      · simp only [spec_l06Over_l12_T, Tree.run, inb_nat, h.il, hi, hl, lt_nat', Nat.lt_irrefl, decide_true, decide_false, if_true, Int.toNat_natCast, Bool.false_eq_true, if_false]
        rfl
      · simp only [impl_Whole_over_i1_l12_T, Tree.run, lt_nat', Nat.lt_irrefl, decide_false, Bool.false_eq_true, if_false]
        rfl) m 0 pool (Nat.zero_add _) hS
  exact ⟨s', k1, k2, k3⟩
/-- Where the number is 0, nothing is turned. -/
theorem l12Z_i1 {n m p r i : Nat} {pool : List (List Int)} {ix : List Nat} (h2 : 2 ≤ p) (h9 : p ≤ 997) (hm : m ≤ 7) (hS : Shape n m p pool ix) (hr : r < n) (hi : i < n) (hne : i ≠ r) (d cc : Int) (pv : List Int) :
    spec_l06Over_l12_g p d cc r i 0 ix pv ((0 : Int), pool) = some pool := by
  obtain ⟨q1, q2⟩ := hS.ib r hr
  obtain ⟨p1, p2⟩ := hS.ib i hi
  have en : decide ((i : Int) = (r : Int)) = false := decide_eq_false (by omega)
  obtain ⟨s', k1, k2⟩ := for1 (T := fun s => (spec_l06Over_l12_T p d cc r i 0 ix pv s).run) (n := m) (fun _ s => s = pool) id
    (fun j s hj h => by
      subst h
      have hl := hS.rl _ q1 q2
      have hl' := hS.rl _ p1 p2
      obtain ⟨x0, x1⟩ := hS.rb _ p1 p2 j hj
      have hy : IntKind.i64.wrap (nth (nget s (nth ix i)) j - IntKind.i64.wrap (0 * nth (nget s (nth ix r)) j)) = nth (nget s (nth ix i)) j := by
        rw [Int.zero_mul, w64 (n := 0) (by omega) (by omega), Int.sub_zero, w64 (by omega) (by omega)]
      refine ⟨pt s (nth ix i) j (nth (nget s (nth ix i)) j), ?_, pt_self hS p1 p2 hj⟩
      simp only [spec_l06Over_l12_T, Tree.run, inb_nat, hS.il, hr, hi, hl, hl', lt_nat', hj, decide_true, if_true, en, Bool.not_false, Int.toNat_natCast, hy, modS _ h2 h9, md_id x0 x1, Option.bind_some, w_succ (show j < 4611686018427387904 by omega)]
      rfl)
    (fun s h => by
      subst h
      have hl := hS.rl _ p1 p2
      simp only [spec_l06Over_l12_T, Tree.run, inb_nat, hS.il, hi, hl, lt_nat', Nat.lt_irrefl, decide_true, decide_false, if_true, Int.toNat_natCast, Bool.false_eq_true, if_false]
      rfl) pool rfl
  have k1' : spec_l06Over_l12_g p d cc r i 0 ix pv ((0 : Int), pool) = some s' := k1
  rw [k1', k2]
/-- The row itself is left. -/
theorem l12R_i1 {n m p r : Nat} {pool : List (List Int)} {ix : List Nat} (hm : m ≤ 7) (hS : Shape n m p pool ix) (hr : r < n) (q d cc : Int) (pv : List Int) :
    spec_l06Over_l12_g p d cc r r q ix pv ((0 : Int), pool) = some pool := by
  obtain ⟨q1, q2⟩ := hS.ib r hr
  refine wi_inr (T := fun s => (spec_l06Over_l12_T p d cc r r q ix pv s).run) ?_
  have en : decide ((r : Int) = (r : Int)) = true := decide_eq_true rfl
  simp only [spec_l06Over_l12_T, Tree.run, inb_nat, hS.il, hr, decide_true, if_true, en, Bool.not_true, Bool.false_eq_true, if_false, ite_self]
theorem l10B_i1 {n m p r c : Nat} {pool : List (List Int)} {ix : List Nat} (h2 : 2 ≤ p) (h9 : p ≤ 997) (hm : m ≤ 7) (hn : n ≤ 6) (hS : Shape n m p pool ix) (hr : r < n) (hc : c < m) (d : Int) (pv : List Int) (a1 a2 : Int) (xs v : List Int) :
    ∃ pool', spec_l06Over_l10_g a1 a2 xs v p d c r ix pv ((0 : Int), pool) = some pool' ∧ impl_Whole_over_i1_l10_g a1 a2 xs p d c r n ix pv ((0 : Int), pool) = some pool' ∧ Shape n m p pool' ix := by
  obtain ⟨s', k1, k2, k3⟩ := for2 (T1 := fun s => (spec_l06Over_l10_T a1 a2 xs v p d c r ix pv s).run) (T2 := fun s => (impl_Whole_over_i1_l10_T a1 a2 xs p d c r n ix pv s).run) (n := n) (fun _ s => Shape n m p s ix) id
    (fun i s hi h => by
      obtain ⟨p1, p2⟩ := h.ib i hi
      have hl := h.rl _ p1 p2
      have hw := w_succ (show i < 4611686018427387904 by omega)
      by_cases hne : i = r
      · subst hne
        refine ⟨s, ?_, ?_, h⟩
        · simp only [spec_l06Over_l10_T, Tree.run, inb_nat, h.il, hi, hc, hl, lt_nat', decide_true, if_true, Int.toNat_natCast, l12R_i1 hm h hi, Option.bind_some, hw]
        · simp only [impl_Whole_over_i1_l10_T, Tree.run, inb_nat, h.il, hi, hc, hl, lt_nat', decide_true, if_true, Int.toNat_natCast, Bool.not_true, Bool.false_eq_true, if_false, hw]
      · have en : decide ((i : Int) = (r : Int)) = false := decide_eq_false (by omega)
        by_cases hz : nth (nget s (nth ix i)) c = 0
        · refine ⟨s, ?_, ?_, h⟩
          · simp only [spec_l06Over_l10_T, Tree.run, inb_nat, h.il, hi, hc, hl, lt_nat', decide_true, if_true, Int.toNat_natCast, hz, l12Z_i1 h2 h9 hm h hr hi hne, Option.bind_some, hw]
          · simp only [impl_Whole_over_i1_l10_T, Tree.run, inb_nat, h.il, hi, hc, hl, lt_nat', decide_true, if_true, Int.toNat_natCast, hz, en, Bool.not_true, Bool.not_false, Bool.false_eq_true, if_false, hw]
        · have hzd : decide (nth (nget s (nth ix i)) c = 0) = false := decide_eq_false hz
          obtain ⟨s', g1, g2, g3⟩ := l12B_i1 h2 h9 hm h hr hi hne (nth (nget s (nth ix i)) c) d c n pv
          refine ⟨s', ?_, ?_, g3⟩
          · simp only [spec_l06Over_l10_T, Tree.run, inb_nat, h.il, hi, hc, hl, lt_nat', decide_true, if_true, Int.toNat_natCast, g1, Option.bind_some, hw]
          · simp only [impl_Whole_over_i1_l10_T, Tree.run, inb_nat, h.il, hi, hc, hl, lt_nat', decide_true, if_true, Int.toNat_natCast, hzd, en, g2, Bool.not_true, Bool.not_false, Bool.false_eq_true, if_false, Option.bind_some, hw])
    (fun s h => by
      constructor
      · simp only [spec_l06Over_l10_T, Tree.run, h.il, lt_nat', Nat.lt_irrefl, decide_false, Bool.false_eq_true, if_false]
        rfl
      · simp only [impl_Whole_over_i1_l10_T, Tree.run, lt_nat', Nat.lt_irrefl, decide_false, Bool.false_eq_true, if_false]
        rfl) n 0 pool (Nat.zero_add _) hS
  exact ⟨s', k1, k2, k3⟩
theorem l6B_i1 {n m p c a : Nat} {pool : List (List Int)} {ix : List Nat} (hn : n ≤ 6) (hS : Shape n m p pool ix) (hc : c < m) (ha : a ≤ n) (d r0 : Int) (pv : List Int) :
    ∃ b : Nat, spec_l06Over_l6_g d c r0 pool ix pv a = some (b : Int) ∧ impl_Whole_over_i1_l6_g d c r0 pool ix pv a = some (b : Int) ∧ a ≤ b ∧ b ≤ n ∧ (b < n → nth (nget pool (nth ix b)) c ≠ 0) := by
  obtain ⟨b, k1, k2, k3, k4⟩ := find_ok (T := fun s => (spec_l06Over_l6_T d c r0 pool ix pv s).run) hS hc
    (fun i hi => by
      obtain ⟨p1, p2⟩ := hS.ib i hi
      have hl := hS.rl _ p1 p2
      simp only [spec_l06Over_l6_T, Tree.run, lt_nat', hS.il, hi, hc, hl, inb_nat, decide_true, if_true, Int.toNat_natCast, w_succ (show i < 4611686018427387904 by omega)]
      by_cases e : nth (nget pool (nth ix i)) c = 0 <;> simp [e])
    (by simp only [spec_l06Over_l6_T, Tree.run, lt_nat', hS.il, Nat.lt_irrefl, decide_false, Bool.false_eq_true, if_false]) (n - a) a (by omega)
  exact ⟨b, k1, k1, k2, k3, k4⟩
theorem l4B_i1 {n m p c : Nat} (hp : prB p = true) (hm : m ≤ 7) (hn : n ≤ 6) (hcm : c ≤ m) (xs v : List Int) : ∀ (d j : Nat) (det : Int) (pool : List (List Int)) (ix pn : List Nat), j + d = c → Ov n m p j pool ix pn →
    ∃ det' pool' ix' pn', spec_l06Over_l4_g n c xs v p (det, (j : Int), pool, ix, ints pn) = some (det', pool', ix', ints pn') ∧ impl_Whole_over_i1_l4_g n c xs p (det, (j : Int), pool, ix, ints pn) = some (det', pool', ix', ints pn') ∧ Ov n m p c pool' ix' pn'
  | 0, j, det, pool, ix, pn, hd, hO => by
    have : j = c := by omega
    subst this
    refine ⟨det, pool, ix, pn, ?_, ?_, hO⟩
    · refine wi_inr (T := fun s => (spec_l06Over_l4_T n j xs v p s).run) ?_
      simp only [spec_l06Over_l4_T, Tree.run, lt_nat', Nat.lt_irrefl, decide_false, Bool.false_eq_true, if_false]
    · refine wi_inr (T := fun s => (impl_Whole_over_i1_l4_T n j xs p s).run) ?_
      simp only [impl_Whole_over_i1_l4_T, Tree.run, lt_nat', Nat.lt_irrefl, decide_false, Bool.false_eq_true, if_false]
  | d + 1, j, det, pool, ix, pn, hd, hO => by
    obtain ⟨h2, h9⟩ := prB_le hp
    have hS := hO.sh
    have hj : j < c := by omega
    have hjm : j < m := by omega
    have e0 : decide ((p : Int) = 0) = false := decide_eq_false (by omega)
    have hw := w_succ (show j < 4611686018427387904 by omega)
    obtain ⟨pv, hpv⟩ : ∃ pv, pv = ints pn := ⟨_, rfl⟩
    obtain ⟨r, hr⟩ : ∃ r, pv.length = r := ⟨_, rfl⟩
    have hrn : r = pn.length := by rw [← hr, hpv]; simp [ints]
    have hrl := hO.pl
    obtain ⟨b, f1, f2, f3, f4, f5⟩ := l6B_i1 hn hS hjm (show r ≤ n by omega) det r pv
    rw [← hpv]
    by_cases hbn : b = n
    · subst hbn
      have hO' : Ov b m p (j + 1) pool ix pn := ⟨hS, hrl, fun q hq => by have := hO.pb q hq; omega, hO.ps⟩
      obtain ⟨det', pool', ix', pn', k1, k2, k3⟩ := l4B_i1 hp hm hn hcm xs v d (j + 1) 0 pool ix pn (by omega) hO'
      rw [← hpv] at k1 k2
      have c1 : decide ((b : Int) ≤ (b : Int)) = true := decide_eq_true (Int.le_refl _)
      refine ⟨det', pool', ix', pn', ?_, ?_, k3⟩
      · refine wi_inl (T := fun s => (spec_l06Over_l4_T b c xs v p s).run) ?_ k1
        simp only [spec_l06Over_l4_T, Tree.run, lt_nat', hj, decide_true, if_true, hr, f1, Option.bind_some, hS.il, c1, hw]
      · refine wi_inl (T := fun s => (impl_Whole_over_i1_l4_T b c xs p s).run) ?_ k2
        simp only [impl_Whole_over_i1_l4_T, Tree.run, lt_nat', hj, decide_true, if_true, hr, f2, Option.bind_some, hS.il, hw]
    · have hb : b < n := by omega
      have hrr : r < n := by omega
      have hne := f5 hb
      obtain ⟨b1, b2⟩ := hS.ib b hb
      obtain ⟨x0, x1⟩ := hS.rb _ b1 b2 j hjm
      have hbl := hS.rl _ b1 b2
      obtain ⟨a, ha⟩ : ∃ a : Nat, nth (nget pool (nth ix b)) j = (a : Int) := ⟨(nth (nget pool (nth ix b)) j).toNat, by omega⟩
      have ha0 : 0 < a := by omega
      have hap : a < p := by omega
      have c1 : decide ((n : Int) ≤ (b : Int)) = false := decide_eq_false (by omega)
      have c2 : decide ((b : Int) = (n : Int)) = false := decide_eq_false (by omega)
      have hfit : fits (pv ++ ([(j : Int)] : List Int)).length = true := by
        have : (pv ++ ([(j : Int)] : List Int)).length = r + 1 := by simp [hr]
        rw [this]; exact fitsN (by omega)
      have hints : pv ++ ([(j : Int)] : List Int) = ints (pn ++ [j]) := by rw [hpv]; simp [ints]
      have next : ∀ (pool2 : List (List Int)) (ix2 : List Nat), Shape n m p pool2 ix2 → Ov n m p (j + 1) pool2 ix2 (pn ++ [j]) := fun pool2 ix2 h => by
        refine ⟨h, by simp; omega, fun q hq => ?_, ?_⟩
        · rcases List.mem_append.1 hq with h | h
          · have := hO.pb q h; omega
          · have := List.mem_singleton.1 h; omega
        · refine List.pairwise_append.2 ⟨hO.ps, List.pairwise_singleton _ _, fun x hx y hy => ?_⟩
          have := List.mem_singleton.1 hy
          have := hO.pb x hx
          omega
      by_cases hbr : b = r
      · -- no exchange
        have c3 : decide ((b : Int) = (r : Int)) = true := decide_eq_true (by omega)
        obtain ⟨P8, g1, g2, g3⟩ := l8B_i1 h2 h9 hm hS hrr (bk_lt (a := a) (p := p) (by omega)) (Int.tmod (IntKind.i64.wrap (det * (a : Int))) p) j pv
        obtain ⟨P10, g4, g5, g6⟩ := l10B_i1 h2 h9 hm hn g3 hrr hjm (Int.tmod (IntKind.i64.wrap (det * (a : Int))) p) pv n c xs v
        obtain ⟨det', pool', ix', pn', k1, k2, k3⟩ := l4B_i1 hp hm hn hcm xs v d (j + 1) (Int.tmod (IntKind.i64.wrap (det * (a : Int))) p) P10 ix (pn ++ [j]) (by omega) (next _ _ g6)
        rw [← hints] at k1 k2
        rw [hbr] at ha hbl
        refine ⟨det', pool', ix', pn', ?_, ?_, k3⟩
        · refine wi_inl (T := fun s => (spec_l06Over_l4_T n c xs v p s).run) ?_ k1
          simp only [spec_l06Over_l4_T, Tree.run, lt_nat', hj, decide_true, if_true, hr, f1, Option.bind_some, hS.il, c1, c3, Bool.not_true, Bool.not_false, Bool.false_eq_true, if_false, hw, inb_nat, hrr, hbl, hjm, e0, Int.toNat_natCast, ha, backS hp ha0 hap, g1, g4, hfit]
        · refine wi_inl (T := fun s => (impl_Whole_over_i1_l4_T n c xs p s).run) ?_ k2
          simp only [impl_Whole_over_i1_l4_T, Tree.run, lt_nat', hj, decide_true, if_true, hr, f2, Option.bind_some, hS.il, c2, c3, Bool.not_true, Bool.not_false, Bool.false_eq_true, if_false, hw, inb_nat, hrr, hbl, hjm, e0, Int.toNat_natCast, ha, backI hp ha0 hap, g2, g5, hfit]
      · -- two rows change their places
        have c3 : decide ((b : Int) = (r : Int)) = false := decide_eq_false (by omega)
        obtain ⟨hS', hsw⟩ := hS.swap hb hrr
        obtain ⟨I, hI⟩ : ∃ I, I = swI ix b r := ⟨_, rfl⟩
        rw [← hI] at hS' hsw
        have hI' : (ix.set b (nth ix r)).set r (nth ix b) = I := hI.symm
        rw [← hsw] at ha hbl
        obtain ⟨D, hD⟩ : ∃ D, D = IntKind.i64.wrap (0 - det) % (p : Int) := ⟨_, rfl⟩
        obtain ⟨P8, g1, g2, g3⟩ := l8B_i1 h2 h9 hm hS' hrr (bk_lt (a := a) (p := p) (by omega)) (Int.tmod (IntKind.i64.wrap (D * (a : Int))) p) j pv
        obtain ⟨P10, g4, g5, g6⟩ := l10B_i1 h2 h9 hm hn g3 hrr hjm (Int.tmod (IntKind.i64.wrap (D * (a : Int))) p) pv n c xs v
        obtain ⟨det', pool', ix', pn', k1, k2, k3⟩ := l4B_i1 hp hm hn hcm xs v d (j + 1) (Int.tmod (IntKind.i64.wrap (D * (a : Int))) p) P10 I (pn ++ [j]) (by omega) (next _ _ g6)
        rw [← hints] at k1 k2
        refine ⟨det', pool', ix', pn', ?_, ?_, k3⟩
        · refine wi_inl (T := fun s => (spec_l06Over_l4_T n c xs v p s).run) ?_ k1
          simp only [spec_l06Over_l4_T, Tree.run, lt_nat', hj, decide_true, if_true, hr, f1, Option.bind_some, hS.il, c1, c3, Bool.not_true, Bool.not_false, Bool.false_eq_true, if_false, hw, inb_nat, hb, hrr, modS _ h2 h9, ← hD, hI', hbl, hjm, e0, Int.toNat_natCast, ha, backS hp ha0 hap, g1, g4, hfit]
        · refine wi_inl (T := fun s => (impl_Whole_over_i1_l4_T n c xs p s).run) ?_ k2
          simp only [impl_Whole_over_i1_l4_T, Tree.run, lt_nat', hj, decide_true, if_true, hr, f2, Option.bind_some, hS.il, c2, c3, Bool.not_true, Bool.not_false, Bool.false_eq_true, if_false, hw, inb_nat, hb, hrr, restI _ h2 h9, ← hD, hI', hS'.il, hbl, hjm, e0, Int.toNat_natCast, ha, backI hp ha0 hap, g2, g5, hfit]
theorem l2I_i1 {p : Nat} (h2 : 2 ≤ p) (h9 : p ≤ 997) {ys : List Int} (hl : ys.length ≤ 1000) (i : Int) (pool : List (List Int)) (ix : List Nat) : impl_Whole_over_i1_l2_g p i (ys.length : Nat) pool ix ((0 : Int), ys) = some (ys.map fun y => y % (p : Int)) := by
  refine mapG (T := fun s => (impl_Whole_over_i1_l2_T p i (ys.length : Nat) pool ix s).run) (f := fun y => y % (p : Int)) (fun k s hk hs => ?_) fun s hs => ?_
  · simp only [impl_Whole_over_i1_l2_T, Tree.run, lt_nat', hk, hs, inb_nat, decide_true, if_true, Int.toNat_natCast, Option.bind_some, restI _ h2 h9, w_succ (show k < 4611686018427387904 by omega)]
  · simp only [impl_Whole_over_i1_l2_T, Tree.run, lt_nat', Nat.lt_irrefl, decide_false, Bool.false_eq_true, if_false]
theorem l0B_i1 {n c p : Nat} {xs : List Int} (h2 : 2 ≤ p) (h9 : p ≤ 997) (hn : n ≤ 6) (h1 : 1 ≤ c) (hc : c ≤ 6) (hx : xs.length = n * c) :
    spec_l06Over_l0_g n c xs [] p ((0 : Int), ([] : List (List Int)), ([] : List Nat)) = some (poolO c p xs [] n, ixO n) ∧ impl_Whole_over_i1_l0_g n c xs p ((0 : Int), ([] : List (List Int)), ([] : List Nat)) = some (poolO c p xs [] n, ixO n) := by
  obtain ⟨s', k1, k2, k3⟩ := for2 (T1 := fun s => (spec_l06Over_l0_T n c xs [] p s).run) (T2 := fun s => (impl_Whole_over_i1_l0_T n c xs p s).run) (n := n) (fun i s => s = (poolO c p xs [] i, ixO i)) id
    (fun i s hi h => by
      subst h
      have hw := w_succ (show i < 4611686018427387904 by omega)
      have hfit : fits (i + 1) = true := fitsN (by omega)
      obtain ⟨r1, r2, r3, r4⟩ := rowWI hi h1 hn hc hx
      rw [hw] at r3
      have hrow : (AM.sub xs ((i * c : Nat) : Int) (((i + 1) * c : Nat) : Int)).map (fun y => y % (p : Int)) = rowO c p xs [] i := by
        unfold rowO
        rw [List.append_nil]
        have h3 := Nat.mul_le_mul_right c (show i + 1 ≤ n from hi)
        have h4 : (i + 1) * c = i * c + c := by rw [Nat.add_mul, Nat.one_mul]
        refine ext_nth (by rw [List.length_map, List.length_map, r4, List.length_range]) fun j hj => ?_
        have hj' : j < c := by rw [List.length_map, r4] at hj; exact hj
        rw [nth_map_range _ _ _ hj', nth_of _ _ hj, List.getElem_map, ← nth_of _ _ (by rw [r4]; exact hj'), nthSubG (by omega) (by omega)]
      have hL := l2I_i1 h2 h9 (ys := AM.sub xs ((i * c : Nat) : Int) (((i + 1) * c : Nat) : Int)) (by rw [r4]; omega) i (poolO c p xs [] i) (ixO i)
      rw [hrow] at hL
      refine ⟨_, ?_, ?_, rfl⟩
      · have hS := l2S h2 h9 hi hn hc hx (poolO c p xs [] i) (ixO i)
        have hr0 : ((List.range c).map fun k => nth xs (i * c + k) % (p : Int)) = rowO c p xs [] i := by unfold rowO; rw [List.append_nil]
        rw [hr0] at hS
        have z : decide ((0 : Int) < ((([] : List Int).length : Nat) : Int)) = false := by decide
        simp only [spec_l06Over_l0_T, Tree.run, lt_nat', hi, decide_true, if_true, hS, Option.bind_some, z, Bool.false_eq_true, if_false, ixO_len, hfit, hw, poolO_succ, ixO_succ]
      · simp only [impl_Whole_over_i1_l0_T, Tree.run, lt_nat', hi, decide_true, if_true, r1, r2, r3, List.nil_append, hL, Option.bind_some, ixO_len, hfit, hw, poolO_succ, ixO_succ])
    (fun s h => by
      subst h
      constructor
      · simp only [spec_l06Over_l0_T, Tree.run, lt_nat', Nat.lt_irrefl, decide_false, Bool.false_eq_true, if_false]
        rfl
      · simp only [impl_Whole_over_i1_l0_T, Tree.run, lt_nat', Nat.lt_irrefl, decide_false, Bool.false_eq_true, if_false]
        rfl) n 0 _ (Nat.zero_add _) rfl
  subst k3
  exact ⟨k1, k2⟩
theorem overB_i1 {n c p : Nat} {xs : List Int} (hp : prB p = true) (hn : n ≤ 6) (h1 : 1 ≤ c) (hc : c ≤ 6) (hx : xs.length = n * c) :
    ∃ det pool ix pn, spec_l06Over_g n c xs [] p = some (det, pool, ix, ints pn) ∧ impl_Whole_over_i1_g n c xs p = some (det, pool, ix, ints pn) ∧ Ov n c p c pool ix pn := by
  obtain ⟨h2, h9⟩ := prB_le hp
  obtain ⟨a1, a2⟩ := l0B_i1 h2 h9 hn h1 hc hx
  obtain ⟨det, pool, ix, pn, k1, k2, k3⟩ := l4B_i1 hp (show c ≤ 7 by omega) hn (Nat.le_refl c) xs [] c 0 1 (poolO c p xs [] n) (ixO n) [] (Nat.zero_add _) ⟨shapeO (by omega) xs [], Nat.zero_le _, by simp, .nil⟩
  have e : ((0 : Nat) : Int) = 0 := rfl
  have e2 : ints [] = [] := rfl
  rw [e, e2] at k1 k2
  refine ⟨det, pool, ix, pn, ?_, ?_, k3⟩
  · simp only [spec_l06Over_g, spec_l06Over_T, Tree.run, a1, k1, Option.bind_some, if_true]
  · simp only [impl_Whole_over_i1_g, impl_Whole_over_i1_T, Tree.run, a2, k2, Option.bind_some, if_true]
end Go.Proofs.Ytimlecagkbbnpaa.AM
