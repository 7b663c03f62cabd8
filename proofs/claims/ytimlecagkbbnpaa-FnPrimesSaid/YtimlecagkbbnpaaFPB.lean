/- SRC FP0 QFnPrimes -/
import Derived.Test.YtimlecagkbbnpaaD18
import Derived.Test.YtimlecagkbbnpaaX1
import Derived.Test.YtimlecagkbbnpaaFPA
set_option linter.unusedSimpArgs false
set_option linter.unusedVariables false
set_option maxHeartbeats 4000000
set_option maxRecDepth 100000
namespace Go.Proofs.Ytimlecagkbbnpaa.AM

theorem sl_inl {σ ρ : Type} {T : σ → Option (σ ⊕ ρ)} {s s' : σ} {r : Option ρ} (h : T s = some (.inl s')) (h' : whileM T s' = r) : whileM T s = r := by rw [whileM_eq, h]; exact h'
theorem sl_inr {σ ρ : Type} {T : σ → Option (σ ⊕ ρ)} {s : σ} {r : ρ} (h : T s = some (.inr r)) : whileM T s = some r := by rw [whileM_eq, h]
/-- Bytes. -/
def Byt (xs : List Int) : Prop := ∀ x ∈ xs, 0 ≤ x ∧ x < 256
theorem byt_nth {xs : List Int} (h : Byt xs) {i : Nat} (hi : i < xs.length) : 0 ≤ nth xs i ∧ nth xs i < 256 := by rw [nth_of _ _ hi]; exact h _ (List.getElem_mem hi)
theorem and255 (x : Int) : 0 ≤ iand .u64 x 255 ∧ iand .u64 x 255 < 256 := by
  unfold iand
  have h : (BitVec.ofInt IntKind.u64.bits x &&& BitVec.ofInt IntKind.u64.bits 255).toNat ≤ 255 := by
    rw [BitVec.toNat_and]
    exact Nat.le_trans Nat.and_le_right (by decide)
  have hw : ∀ n : Nat, n ≤ 255 → IntKind.u64.wrap (n : Int) = (n : Int) := fun n hn => by
    simp [IntKind.wrap, IntKind.bits, IntKind.signed]; omega
  rw [hw _ h]; omega
theorem next_ok {code : List Int} (hb : Byt code) (hl : code.length ≤ 1048576) (a s : Int) (h0 : 0 ≤ a) (h1 : a ≤ 1000000000000) :
    ∃ b s', spec_l00Src_next_g code a s = some (b, a + 1, s') ∧ 0 ≤ b ∧ b < 256 := by
  have w : IntKind.i64.wrap (a + 1) = a + 1 := w64 (by omega) (by omega)
  obtain ⟨n, rfl⟩ : ∃ n : Nat, a = n := ⟨a.toNat, by omega⟩
  have h255 := and255
  by_cases c1 : ((n : Nat) : Int) < ((code.length : Nat) : Int)
  · have hn : n < code.length := by omega
    have hby := byt_nth hb hn
    have wb : IntKind.i64.wrap (nth code n) = nth code n := w64 (by omega) (by omega)
    have c2 : (n : Int) + 1 ≤ ((code.length : Nat) : Int) := by omega
    obtain ⟨z, hz⟩ : ∃ z, z = IntKind.u64.wrap ((IntKind.u64.wrap ((IntKind.u64.wrap (s * (6364136223846793005 : Int))) + (IntKind.u64.wrap (nth code n)))) + (1442695040888963407 : Int)) := ⟨_, rfl⟩
    refine ⟨nth code n, z, ?_, hby.1, hby.2⟩
    simp only [spec_l00Src_next_g, spec_l00Src_next_T, Tree.run, c1, decide_true, if_true, inb_nat, hn, w, c2, Int.toNat_natCast, wb, ← hz]
  · have c2 : ¬ ((n : Int) + 1 ≤ ((code.length : Nat) : Int)) := by omega
    have e40 : decide ((0 : Int) ≤ 40) = true := by decide
    obtain ⟨z, hz⟩ : ∃ z, z = IntKind.u64.wrap ((IntKind.u64.wrap ((IntKind.u64.wrap (s * (6364136223846793005 : Int))) + (IntKind.u64.wrap ((0 : Int))))) + (1442695040888963407 : Int)) := ⟨_, rfl⟩
    obtain ⟨q1, q2⟩ := h255 (ishr .u64 z 40)
    have wq : IntKind.i64.wrap (iand .u64 (ishr .u64 z 40) 255) = iand .u64 (ishr .u64 z 40) 255 := w64 (by omega) (by omega)
    refine ⟨iand .u64 (ishr .u64 z 40) 255, z, ?_, q1, q2⟩
    simp only [spec_l00Src_next_g, spec_l00Src_next_T, Tree.run, c1, decide_false, Bool.false_eq_true, if_false, w, c2, e40, if_true, ← hz, wq]
theorem pick_ok {code : List Int} (hb : Byt code) (hl : code.length ≤ 1048576) (a s n : Int) (h0 : 0 ≤ a) (h1 : a ≤ 100000000000) (hn : 1 ≤ n) (hn2 : n ≤ 200) :
    ∃ b a' s', spec_l00Src_pick_g code a s n = some (b, a', s') ∧ 0 ≤ b ∧ b < n ∧ a ≤ a' ∧ a' ≤ a + 1 := by
  by_cases c1 : n ≤ 1
  · exact ⟨0, a, s, by simp only [spec_l00Src_pick_g, spec_l00Src_pick_T, Tree.run, c1, decide_true, if_true], by omega, by omega, by omega, by omega⟩
  · obtain ⟨b, s', k1, k2, k3⟩ := next_ok hb hl a s h0 (by omega)
    have c2 : ¬ ((200 : Int) < n) := by omega
    have c3 : decide (n = 0) = false := decide_eq_false (by omega)
    have ht : Int.tmod b n = b % n := by rw [Int.tmod_eq_emod_of_nonneg k2]
    refine ⟨b % n, a + 1, s', ?_, Int.emod_nonneg _ (by omega), Int.emod_lt_of_pos _ (by omega), by omega, by omega⟩
    simp only [spec_l00Src_pick_g, spec_l00Src_pick_T, Tree.run, c1, decide_false, Bool.false_eq_true, if_false, k1, Option.bind_some, c2, c3, Bool.not_false, if_true, ht]
theorem draw_loop {code : List Int} (hb : Byt code) (hl : code.length ≤ 1048576) : ∀ (d : Nat) (a s : Int) (xs : List Int), 0 ≤ a → a + d ≤ 100000000000 → xs.length + d ≤ 1000 → (∀ x ∈ xs, -6 ≤ x ∧ x ≤ 6) →
    ∃ a' s' ys, spec_l06DrawSides_l0_g code ((d : Int), a, s, xs) = some (a', s', ys) ∧ ys.length = xs.length + d ∧ ∀ x ∈ ys, -6 ≤ x ∧ x ≤ 6
  | 0, a, s, xs, h0, h1, h2, h3 => ⟨a, s, xs, by
      refine sl_inr (T := fun st => (spec_l06DrawSides_l0_T code st).run) ?_
      have : ¬ ((0 : Int) < ((0 : Nat) : Int)) := by omega
      simp only [spec_l06DrawSides_l0_T, Tree.run, this, decide_false, Bool.false_eq_true, if_false], rfl, h3⟩
  | d + 1, a, s, xs, h0, h1, h2, h3 => by
    obtain ⟨b, a1, s1, k1, k2, k3, k4, k5⟩ := pick_ok hb hl a s 13 h0 (by omega) (by omega) (by omega)
    have w1 : IntKind.i64.wrap (b - 6) = b - 6 := w64 (by omega) (by omega)
    have w2 : IntKind.i64.wrap (((d + 1 : Nat) : Int) - 1) = (d : Int) := by rw [w64 (by omega) (by omega)]; omega
    have hp : (0 : Int) < ((d + 1 : Nat) : Int) := by omega
    have hf : fits (xs ++ ([b - 6] : List Int)).length = true := fits_iff.2 (by rw [List.length_append]; simp [maxN]; omega)
    obtain ⟨a', s', ys, g1, g2, g3⟩ := draw_loop hb hl d a1 s1 (xs ++ [b - 6]) (by omega) (by omega) (by rw [List.length_append]; simp; omega) (fun x hx => by
      rcases List.mem_append.1 hx with h | h
      · exact h3 x h
      · have := List.mem_singleton.1 h; omega)
    refine ⟨a', s', ys, ?_, by rw [g2, List.length_append]; simp; omega, g3⟩
    refine sl_inl (T := fun st => (spec_l06DrawSides_l0_T code st).run) ?_ g1
    simp only [spec_l06DrawSides_l0_T, Tree.run, hp, decide_true, if_true, k1, Option.bind_some, w1, hf, w2]
theorem whole_ok {code : List Int} (hb : Byt code) (hl : code.length ≤ 1048576) (n c : Nat) (hn : n ≤ 12) (hc : c ≤ 12) :
    ∃ ys, spec_R8Whole_g code (n : Int) (c : Int) = some ((n : Int), (c : Int), ys) ∧ ys.length = n * c ∧ ∀ x ∈ ys, -6 ≤ x ∧ x ≤ 6 := by
  have hnc : n * c ≤ 12 * 12 := Nat.mul_le_mul hn hc
  have w : IntKind.i64.wrap ((n : Int) * (c : Int)) = ((n * c : Nat) : Int) := by rw [← Int.natCast_mul, w64 (by omega) (by omega)]
  obtain ⟨a', s', ys, g1, g2, g3⟩ := draw_loop hb hl (n * c) 0 0 [] (by omega) (by omega) (by simp; omega) (by simp)
  refine ⟨ys, ?_, by rw [g2]; simp, g3⟩
  simp only [spec_R8Whole_g, spec_R8Whole_T, spec_l06DrawSides_g, spec_l06DrawSides_T, Tree.run, w, g1, Option.bind_some, if_true]
theorem r8At_ok {xs : List Int} (hb : Byt xs) (hl : xs.length ≤ 1048576) (k n : Int) (h0 : 0 ≤ k) (hn : 2 ≤ n) : ∃ v, laws_r8At_g xs k n = some v ∧ 0 ≤ v ∧ v < n := by
  have c1 : ¬ (n ≤ 1) := by omega
  by_cases c2 : ((xs.length : Nat) : Int) ≤ k
  · exact ⟨0, by simp only [laws_r8At_g, laws_r8At_T, Tree.run, c1, decide_false, Bool.false_eq_true, if_false, c2, decide_true, if_true], by omega, by omega⟩
  · obtain ⟨i, rfl⟩ : ∃ i : Nat, k = i := ⟨k.toNat, by omega⟩
    have hi : i < xs.length := by omega
    have hby := byt_nth hb hi
    have wb : IntKind.i64.wrap (nth xs i) = nth xs i := w64 (by omega) (by omega)
    have c3 : decide (n = 0) = false := decide_eq_false (by omega)
    have ht : Int.tmod (nth xs i) n = nth xs i % n := by rw [Int.tmod_eq_emod_of_nonneg hby.1]
    refine ⟨nth xs i % n, ?_, Int.emod_nonneg _ (by omega), Int.emod_lt_of_pos _ (by omega)⟩
    simp only [laws_r8At_g, laws_r8At_T, Tree.run, c1, decide_false, Bool.false_eq_true, if_false, c2, inb_nat, hi, decide_true, if_true, c3, Bool.not_false, Int.toNat_natCast, wb, ht]
theorem contI (xs : List Int) (v : Int) (h : xs.length ≤ maxN) : slices_ContainsI_g xs v = some (xs.any fun y => decide (v = y)) := by
  unfold maxN at h
  have hT : ∀ i, i < xs.length → (slices_IndexI_l0_T xs v (i : Int)).run = if (decide (v = nth xs i)) = true then some (.inr (.inl (i : Int))) else some (.inl ((i + 1 : Nat) : Int)) := by
    intro i hi
    simp only [slices_IndexI_l0_T, Tree.run, lt_nat, inb_nat, hi, decide_true, if_true, Int.toNat_natCast, w_succ (show i < 4611686018427387904 by omega)]
  have he : (slices_IndexI_l0_T xs v (xs.length : Int)).run = some (.inr (.inr ())) := by
    simp [slices_IndexI_l0_T, Tree.run]
  have := whileM_find (T := fun s => (slices_IndexI_l0_T xs v s).run) (p := fun i => decide (v = nth xs i)) (a := fun i => .inl (i : Int)) hT he
  have ha := find_any xs.length (fun i => decide (v = nth xs i))
  rw [any_range (fun y => decide (v = y))] at ha
  simp only [slices_ContainsI_g, slices_ContainsI_T, slices_IndexI_g, slices_IndexI_T, Tree.run, if_true, slices_IndexI_l0_g, this]
  rw [← ha]
  cases hf : (List.range xs.length).find? (fun i => decide (v = nth xs i)) <;> simp [Tree.run]
theorem ints_len (pn : List Nat) : (ints pn).length = pn.length := by simp [ints]
theorem ints_nth {pn : List Nat} {i : Nat} (h : i < pn.length) : nth (ints pn) i = ((nth pn i : Nat) : Int) := by
  rw [nth_of _ _ (by rw [ints_len]; exact h), nth_of _ _ h]; simp [ints]
theorem ints_any (pn : List Nat) (c : Nat) : ((ints pn).any fun y => decide ((c : Int) = y)) = decide (c ∈ pn) := by
  induction pn with
  | nil => simp [ints]
  | cons a l ih =>
    have : ints (a :: l) = (a : Int) :: ints l := rfl
    rw [this, List.any_cons, ih]
    by_cases h : c = a
    · subst h; simp
    · have h2 : ¬ ((c : Int) = (a : Int)) := by omega
      simp [h, h2]
theorem mem_nth {pn : List Nat} {q : Nat} (h : q ∈ pn) : ∃ t, t < pn.length ∧ nth pn t = q := by
  obtain ⟨t, ht⟩ := List.getElem?_of_mem h
  have hl := (List.getElem?_eq_some_iff.1 ht)
  exact ⟨t, hl.1, by rw [nth_of _ _ hl.1]; exact hl.2⟩
theorem nth_in {pn : List Nat} {t : Nat} (h : t < pn.length) : nth pn t ∈ pn := by rw [nth_of _ _ h]; exact List.getElem_mem h
/-- A vector that all rows lead to nothing. -/
structure NV (n c p : Nat) (xs row : List Int) : Prop where
  len : row.length = c
  bnd : ∀ k, k < c → 0 ≤ nth row k ∧ nth row k < p
  nul : ∀ i, i < n → (p : Int) ∣ dotZ (fun k => nth xs (i * c + k)) (nth row) c
/-- One vector: the places of the pivots are filled. -/
theorem nl2 {n c p q : Nat} {pool : List (List Int)} {ix pn : List Nat} {A : Nat → Nat → Int} (h2 : 2 ≤ p) (h9 : p ≤ 997) (hn : n ≤ 6) (hO : Ov n c p c pool ix pn) (hR : Rr n c p c (ent pool ix) A pn) (hq : q < c) (hf : q ∉ pn) (P : List (List Int)) (I : List Nat) :
    ∃ row, impl_NullOver_l2_g p q ((pn.length : Nat) : Int) pool ix (ints pn) P I ((0 : Int), List.set (List.replicate c (0 : Int)) q 1) = some row ∧ row.length = c ∧ nth row q = 1 ∧ (∀ t, t < pn.length → nth row (nth pn t) = (0 - ent pool ix t q) % (p : Int)) ∧
      ∀ k, k < c → k ≠ q → (∀ t, t < pn.length → k ≠ nth pn t) → nth row k = 0 := by
  have hS := hO.sh
  have hpl := hO.pl
  obtain ⟨row, k1, k2, k3, k4, k5⟩ := for1 (T := fun s => (impl_NullOver_l2_T p q ((pn.length : Nat) : Int) pool ix (ints pn) P I s).run) (n := pn.length)
    (fun t row => row.length = c ∧ nth row q = 1 ∧ (∀ s, s < t → nth row (nth pn s) = (0 - ent pool ix s q) % (p : Int)) ∧ ∀ k, k < c → k ≠ q → (∀ s, s < t → k ≠ nth pn s) → nth row k = 0) id
    (fun t row ht ⟨g1, g2, g3, g4⟩ => by
      have htn : t < n := by omega
      obtain ⟨b1, b2⟩ := hS.ib t htn
      have hrl := hS.rl _ b1 b2
      obtain ⟨x0, x1⟩ := hS.rb _ b1 b2 q hq
      have hpt := hR.lt t ht
      have hne : nth pn t ≠ q := fun e => hf (by rw [← e]; exact nth_in ht)
      have w : IntKind.i64.wrap (0 - nth (nget pool (nth ix t)) q) = 0 - nth (nget pool (nth ix t)) q := w64 (by omega) (by omega)
      refine ⟨row.set (nth pn t) ((0 - nth (nget pool (nth ix t)) q) % (p : Int)), ?_, by simpa using g1, ?_, fun s hs => ?_, fun k hk hkq hks => ?_⟩
      · simp only [impl_NullOver_l2_T, Tree.run, lt_nat', ht, htn, hS.il, hrl, hq, g1, hpt, inb_nat, ints_len, ints_nth ht, decide_true, if_true, Int.toNat_natCast, w, restI _ h2 h9, Option.bind_some, w_succ (show t < 4611686018427387904 by omega)]
      · rw [nth_set_ne _ _ _ _ hne]; exact g2
      · by_cases e : s = t
        · subst e; rw [nth_set_eq _ _ _ (by omega)]; rfl
        · rw [nth_set_ne _ _ _ _ (fun e2 => e (hR.inj s t (by omega) ht e2.symm))]; exact g3 s (by omega)
      · rw [nth_set_ne _ _ _ _ (fun e2 => hks t (by omega) e2.symm)]
        exact g4 k hk hkq fun s hs => hks s (by omega))
    (fun row h => by
      simp only [impl_NullOver_l2_T, Tree.run, lt_nat', Nat.lt_irrefl, decide_false, Bool.false_eq_true, if_false]
      rfl) (List.set (List.replicate c (0 : Int)) q 1) ⟨by simp, by rw [nth_set_eq _ _ _ (by simpa using hq)], fun s hs => by omega, fun k hk hkq _ => by
        rw [nth_set_ne _ _ _ _ (fun e => hkq e.symm), nth_of _ _ (by simpa using hk)]; simp⟩
  exact ⟨row, k1, k2, k3, k4, k5⟩
def ixN (K : Nat) : List Nat := (List.range K).map (· + 1)
theorem ixN_len (K : Nat) : (ixN K).length = K := by simp [ixN]
theorem ixN_nth {K i : Nat} (h : i < K) : nth (ixN K) i = i + 1 := nth_map_range _ _ _ h
theorem ixN_succ (K : Nat) : ixN (K + 1) = ixN K ++ [K + 1] := by simp [ixN, List.range_succ]
theorem nget_snoc {pool : List (List Int)} {x : List Int} {j : Nat} (h : j ≤ pool.length) : nget (pool ++ [x]) (j + 1) = if j < pool.length then nget pool (j + 1) else x := nth_snoc _ _ _ h
theorem mod_bnd {x : Int} {p : Nat} (h : 2 ≤ p) : 0 ≤ x % (p : Int) ∧ x % (p : Int) < p := ⟨Int.emod_nonneg _ (by omega), Int.emod_lt_of_pos _ (by omega)⟩
theorem null_ok {n c p : Nat} {xs : List Int} (h2 : 2 ≤ p) (h9 : p ≤ 997) (hn : n ≤ 6) (hc : c ≤ 6) {pool : List (List Int)} {ix pn : List Nat} (hO : Ov n c p c pool ix pn) (hR : Rr n c p c (ent pool ix) (fun i k => nth xs (i * c + k)) pn) :
    ∃ P, impl_NullOver_l0_g n c xs p pool ix (ints pn) ((0 : Int), ([] : List (List Int)), ([] : List Nat)) = some (P, ixN (freeN pn c)) ∧ P.length = freeN pn c ∧ ∀ j, j < freeN pn c → NV n c p xs (nget P (j + 1)) := by
  have hpl := hO.pl
  obtain ⟨s', k1, k2, k3, k4⟩ := for1 (T := fun s => (impl_NullOver_l0_T n c xs p pool ix (ints pn) s).run) (n := c)
    (fun i s => s.2 = ixN (freeN pn i) ∧ s.1.length = freeN pn i ∧ ∀ j, j < freeN pn i → NV n c p xs (nget s.1 (j + 1))) id
    (fun i s hi ⟨g1, g2, g3⟩ => by
      obtain ⟨P, I⟩ := s
      simp only at g1 g2 g3
      subst g1
      have hw := w_succ (show i < 4611686018427387904 by omega)
      have hct := contI (ints pn) (i : Int) (by rw [ints_len]; unfold maxN; omega)
      rw [ints_any] at hct
      have hfl : freeN pn i ≤ i := by
        have : ∀ k, freeN pn k ≤ k := fun k => by
          induction k with
          | zero => exact Nat.le_refl _
          | succ k ih => simp only [freeN]; split <;> omega
        exact this i
      by_cases hm : i ∈ pn
      · have hd : decide (i ∈ pn) = true := decide_eq_true hm
        rw [hd] at hct
        refine ⟨(P, ixN (freeN pn i)), ?_, ?_, ?_, ?_⟩
        · simp only [impl_NullOver_l0_T, Tree.run, lt_nat', hi, decide_true, if_true, hct, Option.bind_some, hw]
        · simp only [freeN, if_pos hm, Nat.add_zero]
        · simp only [freeN, if_pos hm, Nat.add_zero]; exact g2
        · simp only [freeN, if_pos hm, Nat.add_zero]; exact g3
      · have hd : decide (i ∈ pn) = false := decide_eq_false hm
        rw [hd] at hct
        obtain ⟨row, r1, r2, r3, r4, r5⟩ := nl2 h2 h9 hn hO hR hi hm P (ixN (freeN pn i))
        have hin : inb ((c : Nat) : Int) (maxN + 1) = true := by rw [inb_nat]; unfold maxN; simp; omega
        have hf : fits (freeN pn i + 1) = true := fitsN (by omega)
        have hNV : NV n c p xs row := by
          refine ⟨r2, fun k hk => ?_, hR.null hi (fun t ht e => hm (by rw [← e]; exact nth_in ht)) r3 r4 r5⟩
          by_cases e : k = i
          · subst e; rw [r3]; omega
          · by_cases e2 : ∃ t, t < pn.length ∧ k = nth pn t
            · obtain ⟨t, ht, e3⟩ := e2
              rw [e3, r4 t ht]; exact mod_bnd h2
            · rw [r5 k hk e fun t ht e3 => e2 ⟨t, ht, e3⟩]; omega
        refine ⟨(P ++ [row], ixN (freeN pn i) ++ [P.length + 1]), ?_, ?_, ?_, ?_⟩
        · simp only [impl_NullOver_l0_T, Tree.run, lt_nat', hi, decide_true, if_true, hct, Option.bind_some, Bool.false_eq_true, if_false, hin, Int.toNat_natCast, inb_nat, ints_len, r1, ixN_len, hf, hw]
        · simp only [freeN, if_neg hm]; rw [g2, ixN_succ]
        · simp only [freeN, if_neg hm]; simp [g2]
        · simp only [freeN, if_neg hm]
          intro j hj
          rw [nget_snoc (by omega)]
          split
          · rename_i hl; exact g3 j (by omega)
          · exact hNV)
    (fun s h => by
      simp only [impl_NullOver_l0_T, Tree.run, lt_nat', Nat.lt_irrefl, decide_false, Bool.false_eq_true, if_false]
      rfl) ([], []) ⟨rfl, rfl, fun j hj => by simp [freeN] at hj⟩
  obtain ⟨P, I⟩ := s'
  simp only at k2 k3 k4
  subst k2
  exact ⟨P, k1, k3, k4⟩
/-- What solves. -/
theorem solve_ok {n c p : Nat} {pool : List (List Int)} {ix pn : List Nat} {A : Nat → Nat → Int} (h2 : 2 ≤ p) (hn : n ≤ 6) (hc : c ≤ 6) (hO : Ov n (c + 1) p c pool ix pn) (hR : Rr n (c + 1) p c (ent pool ix) A pn) (hz : ∀ i, pn.length ≤ i → i < n → ent pool ix i c = 0) :
    ∃ row, impl_SolveOver_l0_g c ((n : Nat) : Int) (ints pn) pool ix ((0 : Int), List.replicate c (0 : Int)) = some (.inr row) ∧ row.length = c ∧ (∀ k, k < c → 0 ≤ nth row k ∧ nth row k < p) ∧ (∀ t, t < pn.length → nth row (nth pn t) = ent pool ix t c) ∧
      ∀ k, k < c → (∀ t, t < pn.length → k ≠ nth pn t) → nth row k = 0 := by
  have hS := hO.sh
  have hpl := hO.pl
  obtain ⟨row, k1, k2, k3, k4, k5⟩ := for1 (T := fun s => (impl_SolveOver_l0_T c ((n : Nat) : Int) (ints pn) pool ix s).run) (n := n)
    (fun t row => row.length = c ∧ (∀ k, k < c → 0 ≤ nth row k ∧ nth row k < p) ∧ (∀ s, s < t → s < pn.length → nth row (nth pn s) = ent pool ix s c) ∧ ∀ k, k < c → (∀ s, s < pn.length → k ≠ nth pn s) → nth row k = 0) (fun s => .inr s)
    (fun t row ht ⟨g1, g2, g3, g4⟩ => by
      obtain ⟨b1, b2⟩ := hS.ib t ht
      have hrl := hS.rl _ b1 b2
      have hx := hS.rb _ b1 b2 c (Nat.lt_succ_self c)
      have hcc : c < c + 1 := Nat.lt_succ_self c
      have hw := w_succ (show t < 4611686018427387904 by omega)
      by_cases hp : t < pn.length
      · have hpt := hR.lt t hp
        refine ⟨row.set (nth pn t) (nth (nget pool (nth ix t)) c), ?_, by simpa using g1, fun k hk => ?_, fun s hs hs2 => ?_, fun k hk hks => ?_⟩
        · simp only [impl_SolveOver_l0_T, Tree.run, lt_nat', ht, hS.il, hrl, hcc, hp, g1, hpt, inb_nat, ints_len, ints_nth hp, decide_true, if_true, Int.toNat_natCast, hw]
        · by_cases e : nth pn t = k
          · subst e; rw [nth_set_eq _ _ _ (by omega)]; exact hx
          · rw [nth_set_ne _ _ _ _ e]; exact g2 k hk
        · by_cases e : s = t
          · subst e; rw [nth_set_eq _ _ _ (by omega)]; rfl
          · rw [nth_set_ne _ _ _ _ (fun e2 => e (hR.inj s t hs2 hp e2.symm))]; exact g3 s (by omega) hs2
        · rw [nth_set_ne _ _ _ _ (fun e2 => hks t hp e2.symm)]; exact g4 k hk hks
      · have hz0 : nth (nget pool (nth ix t)) c = 0 := hz t (by omega) ht
        refine ⟨row, ?_, g1, g2, fun s hs hs2 => g3 s (by omega) hs2, g4⟩
        simp only [impl_SolveOver_l0_T, Tree.run, lt_nat', ht, hS.il, hrl, hcc, hp, hz0, inb_nat, ints_len, decide_true, decide_false, Bool.not_true, Bool.false_eq_true, if_false, if_true, Int.toNat_natCast, hw])
    (fun row h => by
      simp only [impl_SolveOver_l0_T, Tree.run, lt_nat', Nat.lt_irrefl, decide_false, Bool.false_eq_true, if_false])
    (List.replicate c (0 : Int)) ⟨by simp, fun k hk => by rw [nth_of _ _ (by simpa using hk)]; simp; omega, fun s hs => by omega, fun k hk _ => by rw [nth_of _ _ (by simpa using hk)]; simp⟩
  exact ⟨row, k1, k2, k3, fun t ht => k4 t (by omega) ht, k5⟩
/-! the law's own loops -/
theorem forS {σ ρ : Type} {T : σ × Int → Option ((σ × Int) ⊕ ρ)} {n : Nat} (f : Nat → σ) (g : σ → ρ) (step : ∀ i : Nat, i < n → T (f i, (i : Int)) = some (.inl (f (i + 1), ((i + 1 : Nat) : Int)))) (stop : T (f n, (n : Int)) = some (.inr (g (f n)))) : whileM T (f 0, (0 : Int)) = some (g (f n)) := by
  have : ∀ (d i : Nat), i + d = n → whileM T (f i, (i : Int)) = some (g (f n)) := fun d => by
    induction d with
    | zero => intro i h; have : i = n := by omega
              subst this; exact wi_inr stop
    | succ d ih => intro i h; exact wi_inl (step i (by omega)) (ih (i + 1) (by omega))
  exact this n 0 (by omega)
theorem dot_bnd {f x : Nat → Int} (a b : Int) (ha : 0 ≤ a) (hb : 0 ≤ b) : ∀ m : Nat, (∀ k, k < m → -a ≤ f k ∧ f k ≤ a ∧ 0 ≤ x k ∧ x k ≤ b) → -(a * b * (m : Int)) ≤ dotZ f x m ∧ dotZ f x m ≤ a * b * (m : Int)
  | 0, _ => by simp [dotZ]
  | m + 1, h => by
    obtain ⟨h1, h2⟩ := dot_bnd a b ha hb m fun k hk => h k (by omega)
    obtain ⟨q1, q2, q3, q4⟩ := h m (by omega)
    have e1 : f m * x m ≤ a * b := Int.mul_le_mul q2 q4 q3 ha
    have e2 : -(a * b) ≤ f m * x m := by
      have := Int.mul_le_mul (show -(f m) ≤ a by omega) q4 q3 ha
      rw [Int.neg_mul] at this; omega
    have e3 : a * b * ((m + 1 : Nat) : Int) = a * b * (m : Int) + a * b := by rw [Int.natCast_add, Int.mul_add]; simp
    simp only [dotZ]
    rw [e3]; omega
theorem tm0 {x : Int} {p : Nat} (h : (p : Int) ∣ x) : Int.tmod x (p : Int) = 0 := Int.tmod_eq_zero_of_dvd h
theorem ix_wrap {n c i k : Nat} (hi : i < n) (hk : k < c) (hn : n ≤ 6) (hc : c ≤ 6) : IntKind.i64.wrap ((IntKind.i64.wrap ((i : Int) * (c : Int))) + (k : Int)) = ((i * c + k : Nat) : Int) := by
  have h1 : i * c ≤ 36 := Nat.le_trans (Nat.mul_le_mul (Nat.le_of_lt hi) (Nat.le_refl c)) (le36 hn hc)
  rw [← Int.natCast_mul, wN (p := i * c) (by omega), ← Int.natCast_add, wN (p := i * c + k) (by omega)]
theorem ix_lt {n c i k : Nat} (hi : i < n) (hk : k < c) : i * c + k < n * c := by
  have := Nat.mul_le_mul_right c (show i + 1 ≤ n from hi)
  rw [Nat.add_mul] at this; omega
/-- One row times one vector. -/
theorem l4_ok {n c p i j : Nat} {xs row : List Int} {P : List (List Int)} {I : List Nat} (hp : p ≤ 101) (hn : n ≤ 6) (hc : c ≤ 6) (hx : xs.length = n * c) (hw : ∀ x ∈ xs, -6 ≤ x ∧ x ≤ 6) (hi : i < n) (hj : j < I.length) (hg : nget P (nth I j) = row) (hl : row.length = c) (hb : ∀ k, k < c → 0 ≤ nth row k ∧ nth row k < p) (a1 a2 : Int) :
    laws_FnPrimes_l4_g p n c j i a1 a2 P I xs ((0 : Int), (0 : Int)) = some (dotZ (fun k => nth xs (i * c + k)) (nth row) c) := by
  have hxb : ∀ k, k < c → -6 ≤ nth xs (i * c + k) ∧ nth xs (i * c + k) ≤ 6 := fun k hk => by
    have : i * c + k < xs.length := by rw [hx]; exact ix_lt hi hk
    rw [nth_of _ _ this]; exact hw _ (List.getElem_mem this)
  have hB : ∀ m, m ≤ c → -3636 ≤ dotZ (fun k => nth xs (i * c + k)) (nth row) m ∧ dotZ (fun k => nth xs (i * c + k)) (nth row) m ≤ 3636 := fun m hm => by
    have := dot_bnd (f := fun k => nth xs (i * c + k)) (x := nth row) 6 101 (by omega) (by omega) m fun k hk => ⟨(hxb k (by omega)).1, (hxb k (by omega)).2, (hb k (by omega)).1, by have := (hb k (by omega)).2; omega⟩
    omega
  refine forS (T := fun s => (laws_FnPrimes_l4_T p n c j i a1 a2 P I xs s).run) (n := c) (fun m => dotZ (fun k => nth xs (i * c + k)) (nth row) m) id (fun k hk => ?_) ?_
  · have hlt : i * c + k < xs.length := by rw [hx]; exact ix_lt hi hk
    obtain ⟨b1, b2⟩ := hxb k hk
    obtain ⟨r1, r2⟩ := hb k hk
    have q1 := hB k (by omega)
    have q2 := hB (k + 1) (by omega)
    have e1 : nth xs (i * c + k) * nth row k ≤ 6 * 101 := Int.mul_le_mul b2 (by omega) r1 (by omega)
    have e2 : -(nth xs (i * c + k)) * nth row k ≤ 6 * 101 := Int.mul_le_mul (by omega) (by omega) r1 (by omega)
    rw [Int.neg_mul] at e2
    have w1 : IntKind.i64.wrap (nth xs (i * c + k) * nth row k) = nth xs (i * c + k) * nth row k := w64 (by omega) (by omega)
    have w2 : IntKind.i64.wrap (dotZ (fun k => nth xs (i * c + k)) (nth row) k + nth xs (i * c + k) * nth row k) = dotZ (fun k => nth xs (i * c + k)) (nth row) (k + 1) := by simp only [dotZ]; exact w64 (by omega) (by omega)
    simp only [laws_FnPrimes_l4_T, Tree.run, lt_nat', hk, decide_true, if_true, ix_wrap hi hk hn hc, inb_nat, hlt, hj, hg, hl, Int.toNat_natCast, w1, w2, w_succ (show k < 4611686018427387904 by omega)]
  · simp only [laws_FnPrimes_l4_T, Tree.run, lt_nat', Nat.lt_irrefl, decide_false, Bool.false_eq_true, if_false]
    rfl
theorem l2_ok {n c p j : Nat} {xs row : List Int} {P : List (List Int)} {I : List Nat} (v1 v2 : List Int) (h2 : 2 ≤ p) (hp : p ≤ 101) (hn : n ≤ 6) (hc : c ≤ 6) (hx : xs.length = n * c) (hw : ∀ x ∈ xs, -6 ≤ x ∧ x ≤ 6) (hj : j < I.length) (hg : nget P (nth I j) = row) (hN : NV n c p xs row) (a1 a2 : Int) :
    laws_FnPrimes_l2_g v1 v2 p n c j a1 a2 P I xs (0 : Int) = some (.inr ()) := by
  have e0 : decide ((p : Int) = 0) = false := decide_eq_false (by omega)
  have := whileM_fix (T := fun s => (laws_FnPrimes_l2_T v1 v2 p n c j a1 a2 P I xs s).run) (n := n) (r := .inr ()) (fun i => ((i : Nat) : Int))
    (fun i hi => by
      have h4 := l4_ok hp hn hc hx hw hi hj hg hN.len hN.bnd a1 a2
      simp only [laws_FnPrimes_l2_T, Tree.run, lt_nat', hi, decide_true, if_true, h4, Option.bind_some, e0, Bool.not_false, tm0 (hN.nul i hi), Bool.not_true, Bool.false_eq_true, if_false, w_succ (show i < 4611686018427387904 by omega)])
    (by simp only [laws_FnPrimes_l2_T, Tree.run, lt_nat', Nat.lt_irrefl, decide_false, Bool.false_eq_true, if_false])
  exact this
theorem l0_ok {n c p K : Nat} {xs : List Int} {P : List (List Int)} (v1 v2 : List Int) (h2 : 2 ≤ p) (hp : p ≤ 101) (hn : n ≤ 6) (hc : c ≤ 6) (hx : xs.length = n * c) (hw : ∀ x ∈ xs, -6 ≤ x ∧ x ≤ 6) (hK : K ≤ 1000) (hN : ∀ j, j < K → NV n c p xs (nget P (j + 1))) (a1 a2 : Int) :
    laws_FnPrimes_l0_g v1 v2 p n c a1 a2 P (ixN K) xs (0 : Int) = some (.inr ()) := by
  have := whileM_fix (T := fun s => (laws_FnPrimes_l0_T v1 v2 p n c a1 a2 P (ixN K) xs s).run) (n := K) (r := .inr ()) (fun i => ((i : Nat) : Int))
    (fun i hi => by
      have h := hN i hi
      have h4 := l2_ok v1 v2 h2 hp hn hc hx hw (show i < (ixN K).length by rw [ixN_len]; exact hi) (show nget P (nth (ixN K) i) = nget P (i + 1) by rw [ixN_nth hi]) h a1 a2
      have hl : decide (((c : Nat) : Int) = (c : Int)) = true := decide_eq_true rfl
      simp only [laws_FnPrimes_l0_T, Tree.run, lt_nat', ixN_len, hi, inb_nat, decide_true, if_true, Int.toNat_natCast, ixN_nth hi, h.len, hl, Bool.not_true, Bool.false_eq_true, if_false, h4, Option.bind_some, w_succ (show i < 4611686018427387904 by omega)])
    (by simp only [laws_FnPrimes_l0_T, Tree.run, lt_nat', ixN_len, Nat.lt_irrefl, decide_false, Bool.false_eq_true, if_false])
  exact this
/-- The vector that is drawn, times the rows. -/
theorem l8_ok {n c p i : Nat} {xs v2 : List Int} {u : Nat → Int} (hn : n ≤ 6) (hc : c ≤ 6) (hx : xs.length = n * c) (hw : ∀ x ∈ xs, -6 ≤ x ∧ x ≤ 6) (hi : i < n) (hu : ∀ k : Nat, k < c → laws_r8At_g v2 (k : Int) 9 = some (u k) ∧ 0 ≤ u k ∧ u k < 9) (a1 a2 : Int) (z : List Int) :
    laws_FnPrimes_l8_g v2 p n c i a1 a2 z xs ((0 : Int), (0 : Int)) = some (dotZ (fun k => nth xs (i * c + k)) u c) := by
  have hxb : ∀ k, k < c → -6 ≤ nth xs (i * c + k) ∧ nth xs (i * c + k) ≤ 6 := fun k hk => by
    have : i * c + k < xs.length := by rw [hx]; exact ix_lt hi hk
    rw [nth_of _ _ this]; exact hw _ (List.getElem_mem this)
  have hB : ∀ m, m ≤ c → -324 ≤ dotZ (fun k => nth xs (i * c + k)) u m ∧ dotZ (fun k => nth xs (i * c + k)) u m ≤ 324 := fun m hm => by
    have := dot_bnd (f := fun k => nth xs (i * c + k)) (x := u) 6 9 (by omega) (by omega) m fun k hk => ⟨(hxb k (by omega)).1, (hxb k (by omega)).2, (hu k (by omega)).2.1, by have := (hu k (by omega)).2.2; omega⟩
    omega
  refine forS (T := fun s => (laws_FnPrimes_l8_T v2 p n c i a1 a2 z xs s).run) (n := c) (fun m => dotZ (fun k => nth xs (i * c + k)) u m) id (fun k hk => ?_) ?_
  · have hlt : i * c + k < xs.length := by rw [hx]; exact ix_lt hi hk
    obtain ⟨b1, b2⟩ := hxb k hk
    obtain ⟨r0, r1, r2⟩ := hu k hk
    have q1 := hB k (by omega)
    have e1 : nth xs (i * c + k) * u k ≤ 6 * 9 := Int.mul_le_mul b2 (by omega) r1 (by omega)
    have e2 : -(nth xs (i * c + k)) * u k ≤ 6 * 9 := Int.mul_le_mul (by omega) (by omega) r1 (by omega)
    rw [Int.neg_mul] at e2
    have w1 : IntKind.i64.wrap (nth xs (i * c + k) * u k) = nth xs (i * c + k) * u k := w64 (by omega) (by omega)
    have w2 : IntKind.i64.wrap (dotZ (fun k => nth xs (i * c + k)) u k + nth xs (i * c + k) * u k) = dotZ (fun k => nth xs (i * c + k)) u (k + 1) := by simp only [dotZ]; exact w64 (by omega) (by omega)
    simp only [laws_FnPrimes_l8_T, Tree.run, lt_nat', hk, decide_true, if_true, ix_wrap hi hk hn hc, inb_nat, hlt, Int.toNat_natCast, r0, Option.bind_some, w1, w2, w_succ (show k < 4611686018427387904 by omega)]
  · simp only [laws_FnPrimes_l8_T, Tree.run, lt_nat', Nat.lt_irrefl, decide_false, Bool.false_eq_true, if_false]
    rfl
theorem l6_ok {n c p : Nat} {xs v1 v2 : List Int} {u : Nat → Int} (hn : n ≤ 6) (hc : c ≤ 6) (hx : xs.length = n * c) (hw : ∀ x ∈ xs, -6 ≤ x ∧ x ≤ 6) (hu : ∀ k : Nat, k < c → laws_r8At_g v2 (k : Int) 9 = some (u k) ∧ 0 ≤ u k ∧ u k < 9) (a1 a2 : Int) :
    laws_FnPrimes_l6_g v1 v2 p n c a1 a2 xs ((0 : Int), ([] : List Int)) = some ((List.range n).map fun i => dotZ (fun k => nth xs (i * c + k)) u c) := by
  refine appG (T := fun s => (laws_FnPrimes_l6_T v1 v2 p n c a1 a2 xs s).run) (f := fun i => dotZ (fun k => nth xs (i * c + k)) u c) (fun i s hi hs => ?_) fun s hs => ?_
  · have h8 := l8_ok (p := p) hn hc hx hw hi hu a1 a2 s
    have hf : fits (s ++ ([dotZ (fun k => nth xs (i * c + k)) u c] : List Int)).length = true := fitsN (by simp [hs]; omega)
    simp only [laws_FnPrimes_l6_T, Tree.run, lt_nat', hi, decide_true, if_true, h8, Option.bind_some, hf, w_succ (show i < 4611686018427387904 by omega)]
  · simp only [laws_FnPrimes_l6_T, Tree.run, lt_nat', Nat.lt_irrefl, decide_false, Bool.false_eq_true, if_false]
theorem l12_ok {n c p i : Nat} {xs row v : List Int} (hp : p ≤ 101) (hn : n ≤ 6) (hc : c ≤ 6) (hx : xs.length = n * c) (hw : ∀ x ∈ xs, -6 ≤ x ∧ x ≤ 6) (hi : i < n) (hv0 : -1000 ≤ nth v i ∧ nth v i ≤ 1000) (hl : row.length = c) (hb : ∀ k, k < c → 0 ≤ nth row k ∧ nth row k < p) (a1 a2 : Int) :
    laws_FnPrimes_l12_g p n c i a1 a2 v row xs (0 - nth v i, (0 : Int)) = some (0 - nth v i + dotZ (fun k => nth xs (i * c + k)) (nth row) c) := by
  have hxb : ∀ k, k < c → -6 ≤ nth xs (i * c + k) ∧ nth xs (i * c + k) ≤ 6 := fun k hk => by
    have : i * c + k < xs.length := by rw [hx]; exact ix_lt hi hk
    rw [nth_of _ _ this]; exact hw _ (List.getElem_mem this)
  have hB : ∀ m, m ≤ c → -3636 ≤ dotZ (fun k => nth xs (i * c + k)) (nth row) m ∧ dotZ (fun k => nth xs (i * c + k)) (nth row) m ≤ 3636 := fun m hm => by
    have := dot_bnd (f := fun k => nth xs (i * c + k)) (x := nth row) 6 101 (by omega) (by omega) m fun k hk => ⟨(hxb k (by omega)).1, (hxb k (by omega)).2, (hb k (by omega)).1, by have := (hb k (by omega)).2; omega⟩
    omega
  have := forS (T := fun s => (laws_FnPrimes_l12_T p n c i a1 a2 v row xs s).run) (n := c) (fun m => 0 - nth v i + dotZ (fun k => nth xs (i * c + k)) (nth row) m) id (fun k hk => by
    have hlt : i * c + k < xs.length := by rw [hx]; exact ix_lt hi hk
    obtain ⟨b1, b2⟩ := hxb k hk
    obtain ⟨r1, r2⟩ := hb k hk
    have q1 := hB k (by omega)
    have q2 := hB (k + 1) (by omega)
    have e1 : nth xs (i * c + k) * nth row k ≤ 6 * 101 := Int.mul_le_mul b2 (by omega) r1 (by omega)
    have e2 : -(nth xs (i * c + k)) * nth row k ≤ 6 * 101 := Int.mul_le_mul (by omega) (by omega) r1 (by omega)
    rw [Int.neg_mul] at e2
    have w1 : IntKind.i64.wrap (nth xs (i * c + k) * nth row k) = nth xs (i * c + k) * nth row k := w64 (by omega) (by omega)
    have w2 : IntKind.i64.wrap (0 - nth v i + dotZ (fun k => nth xs (i * c + k)) (nth row) k + nth xs (i * c + k) * nth row k) = 0 - nth v i + dotZ (fun k => nth xs (i * c + k)) (nth row) (k + 1) := by simp only [dotZ]; rw [w64 (by omega) (by omega)]; omega
    simp only [laws_FnPrimes_l12_T, Tree.run, lt_nat', hk, decide_true, if_true, ix_wrap hi hk hn hc, inb_nat, hlt, hl, Int.toNat_natCast, w1, w2, w_succ (show k < 4611686018427387904 by omega)])
    (by
      simp only [laws_FnPrimes_l12_T, Tree.run, lt_nat', Nat.lt_irrefl, decide_false, Bool.false_eq_true, if_false]
      rfl)
  have e : 0 - nth v i + dotZ (fun k => nth xs (i * c + k)) (nth row) 0 = 0 - nth v i := by simp [dotZ]
  rw [e] at this
  exact this
theorem l10_ok {n c p : Nat} {xs row v : List Int} (v1 v2 : List Int) (h2 : 2 ≤ p) (hp : p ≤ 101) (hn : n ≤ 6) (hc : c ≤ 6) (hx : xs.length = n * c) (hw : ∀ x ∈ xs, -6 ≤ x ∧ x ≤ 6) (hv : v.length = n) (hvb : ∀ i, i < n → -1000 ≤ nth v i ∧ nth v i ≤ 1000) (hl : row.length = c) (hb : ∀ k, k < c → 0 ≤ nth row k ∧ nth row k < p)
    (hs : ∀ i, i < n → (p : Int) ∣ dotZ (fun k => nth xs (i * c + k)) (nth row) c - nth v i) (a1 a2 : Int) : laws_FnPrimes_l10_g v1 v2 p n c a1 a2 v row xs (0 : Int) = some (.inr ()) := by
  have e0 : decide ((p : Int) = 0) = false := decide_eq_false (by omega)
  have := whileM_fix (T := fun s => (laws_FnPrimes_l10_T v1 v2 p n c a1 a2 v row xs s).run) (n := n) (r := .inr ()) (fun i => ((i : Nat) : Int))
    (fun i hi => by
      have h4 := l12_ok hp hn hc hx hw hi (hvb i hi) hl hb a1 a2
      obtain ⟨q1, q2⟩ := hvb i hi
      have w : IntKind.i64.wrap (0 - nth v i) = 0 - nth v i := w64 (by omega) (by omega)
      have hd : (p : Int) ∣ 0 - nth v i + dotZ (fun k => nth xs (i * c + k)) (nth row) c := by
        have := hs i hi
        rwa [show 0 - nth v i + dotZ (fun k => nth xs (i * c + k)) (nth row) c = dotZ (fun k => nth xs (i * c + k)) (nth row) c - nth v i by omega]
      simp only [laws_FnPrimes_l10_T, Tree.run, lt_nat', hi, decide_true, if_true, inb_nat, hv, Int.toNat_natCast, w, h4, Option.bind_some, e0, Bool.not_false, tm0 hd, Bool.not_true, Bool.false_eq_true, if_false, w_succ (show i < 4611686018427387904 by omega)])
    (by simp only [laws_FnPrimes_l10_T, Tree.run, lt_nat', Nat.lt_irrefl, decide_false, Bool.false_eq_true, if_false])
  exact this
/-- Does a number from d on, below d + f, divide q? -/
def dvAny (q : Nat) : Nat → Nat → Bool
  | 0, _ => false
  | f + 1, d => Nat.beq (q % d) 0 || dvAny q f (d + 1)
theorem l14_ok (p : Int) (q : Nat) (hq : q ≤ 1000) : ∀ (f d : Nat) (b : Bool), 1 ≤ d → d + f = max d q → laws_FnPrimes_l14_g p q (b, (d : Int)) = some (b || dvAny q f d)
  | 0, d, b, hd, h => by
    refine wi_inr (T := fun s => (laws_FnPrimes_l14_T p q s).run) ?_
    have : ¬ (d < q) := by omega
    simp only [laws_FnPrimes_l14_T, Tree.run, lt_nat', this, decide_false, Bool.false_eq_true, if_false, dvAny, Bool.or_false]
  | f + 1, d, b, hd, h => by
    have hdq : d < q := by omega
    have hw := w_succ (show d < 4611686018427387904 by omega)
    have e0 : decide ((d : Int) = 0) = false := decide_eq_false (by omega)
    cases b with
    | true =>
      have ih := l14_ok p q hq f (d + 1) true (by omega) (by omega)
      rw [Bool.true_or] at ih ⊢
      refine wi_inl (T := fun s => (laws_FnPrimes_l14_T p q s).run) ?_ ih
      simp only [laws_FnPrimes_l14_T, Tree.run, lt_nat', hdq, decide_true, if_true, hw]
    | false =>
      have ih := l14_ok p q hq f (d + 1) (Nat.beq (q % d) 0) (by omega) (by omega)
      rw [Bool.false_or]
      refine wi_inl (T := fun s => (laws_FnPrimes_l14_T p q s).run) ?_ ih
      simp only [laws_FnPrimes_l14_T, Tree.run, lt_nat', hdq, decide_true, if_true, Bool.false_eq_true, if_false, e0, Bool.not_false, tmodN, beq0N, hw]
theorem prime_any : ((List.range 201).all fun q => prB q == (Nat.ble 2 q && !dvAny q (q - 2) 2)) = true := by kernel_rfl
theorem prime_dv {q : Nat} (h : q < 200) : prB q = (Nat.ble 2 q && !dvAny q (q - 2) 2) := by
  have := List.all_eq_true.1 prime_any q (List.mem_range.2 (by omega))
  exact eq_of_beq this
/-- A number that leads back. -/
theorem back_ok {p : Nat} (hp : prB p = true) (h101 : p ≤ 101) (a : Int) (h0 : -200 ≤ a) (h1 : a ≤ 200) :
    (Int.tmod a p = 0 ∧ impl_BackOver_g a p = some (.inl ())) ∨ ∃ b : Nat, Int.tmod a p ≠ 0 ∧ impl_BackOver_g a p = some (.inr (b : Int)) ∧ 1 ≤ b ∧ b < p ∧ (p : Int) ∣ a * (b : Int) - 1 := by
  obtain ⟨h2, h9⟩ := prB_le hp
  have hI := primeI p (by omega) (by omega)
  have hpp : (decide ((0 : Int) ≤ (p : Int)) && prB (Int.toNat (p : Int))) = true := by
    rw [Int.toNat_natCast, hp]; simp
  rw [hpp] at hI
  have e0 : decide ((p : Int) = 0) = false := decide_eq_false (by omega)
  by_cases hz : Int.tmod a p = 0
  · left
    refine ⟨hz, ?_⟩
    simp only [impl_BackOver_g, impl_BackOver_T, Tree.run, hI, Option.bind_some, Bool.not_true, Bool.false_eq_true, if_false, e0, Bool.not_false, if_true, hz, decide_true]
  · right
    obtain ⟨m0, m1⟩ := md_range a (show 0 < p by omega)
    obtain ⟨m, hm⟩ : ∃ m : Nat, a % (p : Int) = (m : Int) := ⟨(a % (p : Int)).toNat, by omega⟩
    have hmp : m < p := by omega
    have hm0 : 0 < m := by
      rcases Nat.eq_zero_or_pos m with h | h
      · exfalso
        subst h
        have hd : (p : Int) ∣ a := Int.dvd_of_emod_eq_zero (by simpa using hm)
        exact hz (tm0 hd)
      · exact h
    have hbk := backI hp hm0 hmp
    have hsame : impl_backOver_g a (p : Int) = impl_backOver_g (m : Int) (p : Int) := by
      have hmm : (m : Int) % (p : Int) = (m : Int) := Int.emod_eq_of_lt (by omega) (by omega)
      simp only [impl_backOver_g, impl_backOver_T, Tree.run, restI _ h2 h9, Option.bind_some, hm, hmm, if_true]
    refine ⟨bk m p, hz, ?_, bk_pos hp hm0 hmp, bk_lt (by omega), ?_⟩
    · simp only [impl_BackOver_g, impl_BackOver_T, Tree.run, hI, Option.bind_some, Bool.not_true, Bool.false_eq_true, if_false, e0, Bool.not_false, if_true, decide_eq_false hz, hsame, hbk]
    · have h1 := ferm hp hm0 hmp
      have d1 : (p : Int) ∣ ((m * bk m p : Nat) : Int) - 1 := by
        have := mod_dvd' ((m * bk m p : Nat) : Int) p
        have e : ((m * bk m p : Nat) : Int) % (p : Int) = 1 := by rw [← Int.natCast_emod]; exact congrArg Int.ofNat h1
        rw [e] at this; exact this
      have d2 : (p : Int) ∣ a * (bk m p : Int) - ((m * bk m p : Nat) : Int) := by
        rw [Int.natCast_mul, ← Int.sub_mul, ← hm]
        exact Int.dvd_trans (mod_dvd' a p) (Int.dvd_mul_right _ _)
      have := Int.dvd_add d2 d1
      rwa [show a * (bk m p : Int) - ((m * bk m p : Nat) : Int) + (((m * bk m p : Nat) : Int) - 1) = a * (bk m p : Int) - 1 by omega] at this
theorem wh_true {n c : Nat} {ys : List Int} (n1 : 1 ≤ n) (n4 : n ≤ 6) (c1 : 1 ≤ c) (c4 : c ≤ 6) (hl : ys.length = n * c) (hw : ∀ x ∈ ys, -6 ≤ x ∧ x ≤ 6) : whB 1000000 n c ys = true := by
  have h36 := le36 n4 c4
  have w : IntKind.i64.wrap ((n : Int) * (c : Int)) = ((n * c : Nat) : Int) := by rw [← Int.natCast_mul, wN (p := n * c) (by omega)]
  have hb : bndB 1000000 ys = true := by
    unfold bndB
    refine List.all_eq_true.2 fun x hx => ?_
    have := hw x hx
    simp; omega
  unfold whB
  rw [w, hl, hb]
  simp
  omega
theorem the_prime (v : Int) (h0 : 0 ≤ v) (h1 : v < 6) : inb v (([(2 : Int), (3 : Int), (5 : Int), (7 : Int), (11 : Int), (101 : Int)] : List Int).length) = true ∧
    ∃ p : Nat, nth ([(2 : Int), (3 : Int), (5 : Int), (7 : Int), (11 : Int), (101 : Int)] : List Int) (Int.toNat v) = (p : Int) ∧ prB p = true ∧ 2 ≤ p ∧ p ≤ 101 ∧ prB (p * p) = false := by
  have : v = 0 ∨ v = 1 ∨ v = 2 ∨ v = 3 ∨ v = 4 ∨ v = 5 := by omega
  rcases this with rfl | rfl | rfl | rfl | rfl | rfl
  · exact ⟨rfl, 2, rfl, by kernel_rfl, by omega, by omega, by kernel_rfl⟩
  · exact ⟨rfl, 3, rfl, by kernel_rfl, by omega, by omega, by kernel_rfl⟩
  · exact ⟨rfl, 5, rfl, by kernel_rfl, by omega, by omega, by kernel_rfl⟩
  · exact ⟨rfl, 7, rfl, by kernel_rfl, by omega, by omega, by kernel_rfl⟩
  · exact ⟨rfl, 11, rfl, by kernel_rfl, by omega, by omega, by kernel_rfl⟩
  · exact ⟨rfl, 101, rfl, by kernel_rfl, by omega, by omega, by kernel_rfl⟩
/-- Rank and null vectors. -/
theorem rank_null {n c p : Nat} {ys : List Int} (hp : prB p = true) (n1 : 1 ≤ n) (n4 : n ≤ 6) (c1 : 1 ≤ c) (c4 : c ≤ 6) (hl : ys.length = n * c) (hw : ∀ x ∈ ys, -6 ≤ x ∧ x ≤ 6) :
    ∃ (r K : Nat) (P : List (List Int)), impl_RankOver_g n c ys p = some (.inr (r : Int)) ∧ impl_NullOver_g n c ys p = some (.inr (P, ixN K)) ∧ r ≤ n ∧ K + r = c ∧ ∀ j, j < K → NV n c p ys (nget P (j + 1)) := by
  obtain ⟨h2, h9⟩ := prB_le hp
  have h36 := le36 n4 c4
  have hI := primeI p (by omega) (by omega)
  have hpp : (decide ((0 : Int) ≤ (p : Int)) && prB (Int.toNat (p : Int))) = true := by rw [Int.toNat_natCast, hp]; simp
  rw [hpp] at hI
  have hv := vwI n c ys (by rw [hl]; unfold maxN; omega)
  rw [wh_true n1 n4 c1 c4 hl hw] at hv
  obtain ⟨det, pool, ix, pn, k1, hO, hR⟩ := overE_i1 hp n4 c1 c4 hl
  obtain ⟨P, p1, p2, p3⟩ := null_ok h2 h9 n4 c4 hO hR
  refine ⟨pn.length, freeN pn c, P, ?_, ?_, hO.pl, freeN_sum c pn hO.ps hO.pb, p3⟩
  · simp only [impl_RankOver_g, impl_RankOver_T, Tree.run, hv, hI, k1, Option.bind_some, Bool.not_true, Bool.false_eq_true, if_false, impl_lengthI_v, ints_len]
  · simp only [impl_NullOver_g, impl_NullOver_T, Tree.run, hv, hI, k1, p1, Option.bind_some, Bool.not_true, Bool.false_eq_true, if_false, if_true]
theorem solves {n c p : Nat} {ys : List Int} (hp : prB p = true) (n1 : 1 ≤ n) (n4 : n ≤ 6) (c1 : 1 ≤ c) (c4 : c ≤ 6) (hl : ys.length = n * c) (hw : ∀ x ∈ ys, -6 ≤ x ∧ x ≤ 6) {u : Nat → Int} (hu : ∀ k : Nat, k < c → 0 ≤ u k ∧ u k < 9) {V : List Int} (hV : V = (List.range n).map fun i => dotZ (fun k => nth ys (i * c + k)) u c) :
    V.length = n ∧ (∀ i, i < n → -1000 ≤ nth V i ∧ nth V i ≤ 1000) ∧ ∃ row, impl_SolveOver_g n c ys V p = some (.inr row) ∧ row.length = c ∧ (∀ k, k < c → 0 ≤ nth row k ∧ nth row k < p) ∧ ∀ i, i < n → (p : Int) ∣ dotZ (fun k => nth ys (i * c + k)) (nth row) c - nth V i := by
  obtain ⟨h2, h9⟩ := prB_le hp
  have h36 := le36 n4 c4
  have hI := primeI p (by omega) (by omega)
  have hpp : (decide ((0 : Int) ≤ (p : Int)) && prB (Int.toNat (p : Int))) = true := by rw [Int.toNat_natCast, hp]; simp
  rw [hpp] at hI
  have hv := vwI n c ys (by rw [hl]; unfold maxN; omega)
  rw [wh_true n1 n4 c1 c4 hl hw] at hv
  have hVl : V.length = n := by rw [hV]; simp
  have hVn : ∀ i, i < n → nth V i = dotZ (fun k => nth ys (i * c + k)) u c := fun i hi => by rw [hV]; exact nth_map_range _ _ _ hi
  have hVb : ∀ i, i < n → -1000 ≤ nth V i ∧ nth V i ≤ 1000 := fun i hi => by
    rw [hVn i hi]
    have := dot_bnd (f := fun k => nth ys (i * c + k)) (x := u) 6 9 (by omega) (by omega) c fun k hk => by
      have hlt : i * c + k < ys.length := by rw [hl]; exact ix_lt hi hk
      have := hw _ (List.getElem_mem hlt)
      rw [← nth_of _ _ hlt] at this
      exact ⟨this.1, this.2, (hu k hk).1, by have := (hu k hk).2; omega⟩
    omega
  have hall : (V.all fun x => decide ((-1000000 : Int) ≤ x) && decide (x ≤ 1000000)) = true := by
    refine List.all_eq_true.2 fun x hx => ?_
    obtain ⟨i, hi⟩ := List.getElem?_of_mem hx
    obtain ⟨h3, h4⟩ := List.getElem?_eq_some_iff.1 hi
    have := hVb i (by omega)
    rw [nth_of _ _ h3, h4] at this
    simp; omega
  have hA := allInB V (-1000000) 1000000 (by rw [hVl]; unfold maxN; omega)
  rw [hall] at hA
  refine ⟨hVl, hVb, ?_⟩
  obtain ⟨det, pool, ix, pn, k1, hO, hR⟩ := overE hp n1 n4 c1 c4 hl hVl
  have hcong : ∀ (i : Nat) (x : Nat → Int), dotZ (fun k => if k < c then nth ys (i * c + k) else nth V i) x c = dotZ (fun k => nth ys (i * c + k)) x c := fun i x => dotZ_congr c fun k hk => by rw [if_pos hk]
  obtain ⟨s1, s2⟩ := hR.solve (u := u) fun i hi => by
    rw [hcong]
    simp only [Nat.lt_irrefl, if_false]
    rw [hVn i hi, Int.sub_self]; exact Int.dvd_zero _
  obtain ⟨row, r1, r2, r3, r4, r5⟩ := solve_ok h2 n4 c4 hO hR s1
  refine ⟨row, ?_, r2, r3, fun i hi => ?_⟩
  · have hin : inb ((c : Nat) : Int) (maxN + 1) = true := by rw [inb_nat]; unfold maxN; simp; omega
    have hln : decide (((n : Nat) : Int) = (n : Int)) = true := decide_eq_true rfl
    simp only [impl_SolveOver_g, impl_SolveOver_T, Tree.run, hv, hI, impl_lengthI_v, hVl, hln, hA, k1, hin, hO.sh.il, Int.toNat_natCast, r1, Option.bind_some, decide_true, Bool.not_true, Bool.false_eq_true, if_false, if_true]
  · have := s2 (nth row) r4 r5 i hi
    rw [hcong] at this
    simpa only [Nat.lt_irrefl, if_false] using this
theorem prim_law (v1 : List Int) (v2 : List Int) (h1 : v1.length ≤ maxN) (w1 : ∀ x ∈ v1, 0 ≤ x ∧ x < 256) (h2 : v2.length ≤ maxN) (w2 : ∀ x ∈ v2, 0 ≤ x ∧ x < 256) : laws_FnPrimes_g v1 v2 = some true := by
  cases hb : laws_r8Long_v v1 v2 with
  | true => simp only [laws_FnPrimes_g, laws_FnPrimes_T, Tree.run, hb, if_true]
  | false =>
    have hlen : v1.length ≤ 48 ∧ v2.length ≤ 48 := by
      unfold laws_r8Long_v at hb
      split at hb
      · cases hb
      · rename_i q1
        simp only [decide_eq_true_eq] at q1
        simp only [decide_eq_false_iff_not] at hb
        omega
    have b1 : Byt v1 := w1
    have b2 : Byt v2 := w2
    obtain ⟨i0, a0, a1, a2⟩ := r8At_ok b2 (by omega) 40 6 (by omega) (by omega)
    obtain ⟨i1, a3, a4, a5⟩ := r8At_ok b2 (by omega) 41 4 (by omega) (by omega)
    obtain ⟨i2, a6, a7, a8⟩ := r8At_ok b2 (by omega) 42 4 (by omega) (by omega)
    obtain ⟨i3, a9, a10, a11⟩ := r8At_ok b2 (by omega) 43 200 (by omega) (by omega)
    obtain ⟨i4, a12, a13, a14⟩ := r8At_ok b2 (by omega) 44 200 (by omega) (by omega)
    obtain ⟨hin, p, hpe, hp, p2, p101, hpp⟩ := the_prime i0 a1 a2
    obtain ⟨n, hn⟩ : ∃ n : Nat, IntKind.i64.wrap ((1 : Int) + i1) = (n : Int) ∧ 1 ≤ n ∧ n ≤ 4 := ⟨(1 + i1).toNat, by rw [w64 (by omega) (by omega)]; omega, by omega, by omega⟩
    obtain ⟨hn, n1, n4⟩ := hn
    obtain ⟨c, hc⟩ : ∃ c : Nat, IntKind.i64.wrap ((1 : Int) + i2) = (c : Int) ∧ 1 ≤ c ∧ c ≤ 4 := ⟨(1 + i2).toNat, by rw [w64 (by omega) (by omega)]; omega, by omega, by omega⟩
    obtain ⟨hc, c1, c4⟩ := hc
    obtain ⟨ys, y1, y2, y3⟩ := whole_ok b1 (by omega) n c (by omega) (by omega)
    obtain ⟨r, K, P, r1, r2, r3, r4, r5⟩ := rank_null hp n1 (by omega) c1 (by omega) y2 y3
    have hl0 := l0_ok v1 v2 p2 p101 (by omega) (by omega) y2 y3 (by omega) r5 (n : Int) (c : Int)
    have hu : ∀ k : Nat, laws_r8At_g v2 (k : Int) 9 = some ((laws_r8At_g v2 (k : Int) 9).getD 0) ∧ 0 ≤ (laws_r8At_g v2 (k : Int) 9).getD 0 ∧ (laws_r8At_g v2 (k : Int) 9).getD 0 < 9 := fun k => by
      obtain ⟨x, x1, x2, x3⟩ := r8At_ok b2 (by omega) (k : Int) 9 (by omega) (by omega)
      rw [x1]; exact ⟨rfl, x2, x3⟩
    have hl6 := l6_ok (p := p) (v1 := v1) (v2 := v2) (u := fun k => (laws_r8At_g v2 (k : Int) 9).getD 0) (show n ≤ 6 by omega) (show c ≤ 6 by omega) y2 y3 (fun k _ => hu k) (n : Int) (c : Int)
    obtain ⟨V, hV⟩ : ∃ V, V = (List.range n).map fun i => dotZ (fun k => nth ys (i * c + k)) (fun k => (laws_r8At_g v2 (k : Int) 9).getD 0) c := ⟨_, rfl⟩
    rw [← hV] at hl6
    obtain ⟨s1, s2, row, s3, s4, s5, s6⟩ := solves hp n1 (by omega) c1 (by omega) y2 y3 (u := fun k => (laws_r8At_g v2 (k : Int) 9).getD 0) (fun k _ => (hu k).2) hV
    have hl10 := l10_ok v1 v2 p2 p101 (by omega) (by omega) y2 y3 s1 s2 s4 s5 s6 (n : Int) (c : Int)
    have hA : IntKind.i64.wrap (i3 - 100) = i3 - 100 := w64 (by omega) (by omega)
    obtain ⟨q, hq⟩ : ∃ q : Nat, i4 = (q : Int) := ⟨i4.toNat, by omega⟩
    subst hq
    have h14 : laws_FnPrimes_l14_g p q (false, (2 : Int)) = some (dvAny q (q - 2) 2) := by
      have := l14_ok (p : Int) q (by omega) (q - 2) 2 false (by omega) (by omega)
      rw [Bool.false_or] at this
      exact this
    have hIp := primeI p (by omega) (by omega)
    have hpp1 : (decide ((0 : Int) ≤ (p : Int)) && prB (Int.toNat (p : Int))) = true := by rw [Int.toNat_natCast, hp]; simp
    rw [hpp1] at hIp
    have hpw : IntKind.i64.wrap ((p : Int) * (p : Int)) = ((p * p : Nat) : Int) := by
      have : p * p ≤ 101 * 101 := Nat.mul_le_mul p101 p101
      rw [← Int.natCast_mul, wN (p := p * p) (by omega)]
    have hIpp := primeI ((p * p : Nat) : Int) (by omega) (by
      have : p * p ≤ 101 * 101 := Nat.mul_le_mul p101 p101
      omega)
    rw [Int.toNat_natCast, hpp, Bool.and_false] at hIpp
    have hIq := primeI q (by omega) (by omega)
    have hqd := prime_dv (q := q) (by omega)
    have hq0 : decide ((0 : Int) ≤ (q : Int)) = true := decide_eq_true (by omega)
    rw [Int.toNat_natCast, hq0, Bool.true_and, hqd] at hIq
    have hlast : (if decide ((2 : Int) ≤ (q : Int)) = true then some ((Nat.ble 2 q && !dvAny q (q - 2) 2) == !dvAny q (q - 2) 2) else some ((Nat.ble 2 q && !dvAny q (q - 2) 2) == false)) = some true := by
      by_cases h : 2 ≤ q
      · have e1 : decide ((2 : Int) ≤ (q : Int)) = true := decide_eq_true (by omega)
        have e2 : Nat.ble 2 q = true := Nat.ble_eq_true_of_le h
        rw [e1, e2]; simp
      · have e1 : decide ((2 : Int) ≤ (q : Int)) = false := decide_eq_false (by omega)
        have e2 : Nat.ble 2 q = false := by
          cases hb : Nat.ble 2 q with
          | false => rfl
          | true => exact absurd (Nat.le_of_ble_eq_true hb) h
        rw [e1, e2]; simp
    have t1 : decide ((r : Int) < 0) = false := decide_eq_false (by omega)
    have t2 : decide (imin (n : Int) (c : Int) < (r : Int)) = false := decide_eq_false (by unfold imin; split <;> omega)
    have t3 : decide (((K : Nat) : Int) = IntKind.i64.wrap ((c : Int) - (r : Int))) = true := decide_eq_true (by rw [w64 (by omega) (by omega)]; omega)
    have t4 : decide (((c : Nat) : Int) = (c : Int)) = true := decide_eq_true rfl
    have t5 : decide ((p : Int) = 0) = false := decide_eq_false (by omega)
    rcases back_ok hp p101 (i3 - 100) (by omega) (by omega) with ⟨e1, e2⟩ | ⟨b, e1, e2, e3, e4, e5⟩
    · have e1d : decide (Int.tmod (i3 - 100) (p : Int) = 0) = true := decide_eq_true e1
      simp only [laws_FnPrimes_g, laws_FnPrimes_T, Tree.run, hb, Bool.false_eq_true, if_false, a0, a3, a6, hin, hn, hc, y1, hpe, r1, r2, t1, t2, ixN_len, t3, hl0, hl6, s3, s4, t4, hl10, a9, hA, e2, t5, e1d, a12, h14, hIp, hpw, hIpp, hIq, Option.bind_some, if_true, Bool.not_true, Bool.not_false, beq_self_eq_true]
      exact hlast
    · have e1d : decide (Int.tmod (i3 - 100) (p : Int) = 0) = false := decide_eq_false e1
      have u1 : decide ((b : Int) < 1) = false := decide_eq_false (by omega)
      have u2 : decide ((p : Int) ≤ (b : Int)) = false := decide_eq_false (by omega)
      have hbb : -(100 * 101) ≤ (i3 - 100) * (b : Int) ∧ (i3 - 100) * (b : Int) ≤ 100 * 101 := by
        constructor
        · have : -(i3 - 100) * (b : Int) ≤ 100 * 101 := Int.mul_le_mul (by omega) (by omega) (by omega) (by omega)
          rw [Int.neg_mul] at this; omega
        · exact Int.mul_le_mul (by omega) (by omega) (by omega) (by omega)
      have u3 : IntKind.i64.wrap (IntKind.i64.wrap ((i3 - 100) * (b : Int)) - 1) = (i3 - 100) * (b : Int) - 1 := by
        have : IntKind.i64.wrap ((i3 - 100) * (b : Int)) = (i3 - 100) * (b : Int) := w64 (by omega) (by omega)
        rw [this, w64 (by omega) (by omega)]
      have u4 : decide (Int.tmod ((i3 - 100) * (b : Int) - 1) (p : Int) = 0) = true := decide_eq_true (tm0 e5)
      simp only [laws_FnPrimes_g, laws_FnPrimes_T, Tree.run, hb, Bool.false_eq_true, if_false, a0, a3, a6, hin, hn, hc, y1, hpe, r1, r2, t1, t2, ixN_len, t3, hl0, hl6, s3, s4, t4, hl10, a9, hA, e2, t5, e1d, u1, u2, u3, u4, a12, h14, hIp, hpw, hIpp, hIq, Option.bind_some, if_true, Bool.not_true, Bool.not_false, beq_self_eq_true]
      exact hlast
theorem prim_lawL (a b : Nat) (ha : a < 9223372036854775808) (hb : b < 9223372036854775808) (big : maxN < a ∨ maxN < b) : laws_FnPrimes_len_g a b = some true := by
  have : laws_r8Long_len_v a b = true := by
    unfold maxN at big
    unfold laws_r8Long_len_v
    by_cases h : (48 : Int) < ((a : Nat) : Int)
    · rw [if_pos (decide_eq_true h)]
    · rw [if_neg (by simpa using h)]; exact decide_eq_true (by omega)
  simp only [laws_FnPrimes_len_g, laws_FnPrimes_len_T, Tree.run, this, if_true]
end Go.Proofs.Ytimlecagkbbnpaa.AM
