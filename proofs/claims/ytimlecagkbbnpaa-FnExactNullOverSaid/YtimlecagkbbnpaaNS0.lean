/- Lists of lists of whole numbers: held against one another, marked, held. -/
import Derived.Test.YtimlecagkbbnpaaOV0
set_option linter.unusedSimpArgs false
set_option linter.unusedVariables false
set_option maxHeartbeats 1000000
set_option maxRecDepth 100000
namespace Go.Proofs.Ytimlecagkbbnpaa.AM

theorem contI (xs : List Int) (v : Int) (h : xs.length ≤ maxN) : slices_ContainsI_g xs v = some (xs.any fun y => decide (v = y)) := by
  unfold maxN at h
  have hT : ∀ i, i < xs.length → (slices_IndexI_l0_T xs v (i : Int)).run = if (decide (v = nth xs i)) = true then some (.inr (.inl (i : Int))) else some (.inl ((i + 1 : Nat) : Int)) := by
    intro i hi
    simp only [slices_IndexI_l0_T, Tree.run, lt_nat, inb_nat, hi, decide_true, if_true, Int.toNat_natCast, w_succ (show i < 4611686018427387904 by omega)]
  have he : (slices_IndexI_l0_T xs v (xs.length : Int)).run = some (.inr (.inr ())) := by
    simp [slices_IndexI_l0_T, Tree.run]
  have := whileM_find (T := fun s => (slices_IndexI_l0_T xs v s).run) (p := fun i => decide (v = nth xs i)) (a := fun i => .inl (i : Int)) hT he
  have ha := find_any xs.length (fun i => decide (v = nth xs i))
  rw [any_range (fun y => decide (v = y))] at ha
  simp only [slices_ContainsI_g, slices_ContainsI_T, slices_IndexI_g, slices_IndexI_T, Tree.run, if_true, slices_IndexI_l0_g, this]
  rw [← ha]
  cases hf : (List.range xs.length).find? (fun i => decide (v = nth xs i)) <;> simp [Tree.run]
theorem ixO_nth {K i : Nat} (h : i < K) : nth (ixO K) i = i + 1 := nth_map_range _ _ _ h
/-- What is marked up to the i-th row. -/
def ofs (pool : List (List Int)) (m : Int) : Nat → Int
  | 0 => m
  | i + 1 => ofs pool m i + (nget pool (i + 1)).length
def mkP (pool : List (List Int)) (m : Int) : Nat → List (List Int)
  | 0 => pool
  | i + 1 => (mkP pool m i).set i (marksI (ofs pool m i) (nget pool (i + 1)).length)
theorem mkP_len (pool : List (List Int)) (m : Int) : ∀ i, (mkP pool m i).length = pool.length
  | 0 => rfl
  | i + 1 => by simp only [mkP, List.length_set]; exact mkP_len pool m i
theorem mkP_get {pool : List (List Int)} (m : Int) : ∀ (i j : Nat), i ≤ pool.length → j < pool.length → nget (mkP pool m i) (j + 1) = if j < i then marksI (ofs pool m j) (nget pool (j + 1)).length else nget pool (j + 1)
  | 0, j, _, hj => by simp [mkP]
  | i + 1, j, hi, hj => by
    have h := nget_set (xs := mkP pool m i) (k := i + 1) (q := j + 1) (r := marksI (ofs pool m i) (nget pool (i + 1)).length) (by omega) (by rw [mkP_len]; exact hi)
    rw [Nat.add_sub_cancel] at h
    simp only [mkP]
    rw [h]
    by_cases e : j = i
    · subst e; rw [if_pos rfl, if_pos (by omega)]
    · rw [if_neg (by omega), mkP_get m i j (by omega) hj]
      by_cases hl : j < i
      · rw [if_pos hl, if_pos (by omega)]
      · rw [if_neg hl, if_neg (by omega)]
/-- K rows of at most 6 numbers. -/
structure Rws (K : Nat) (pool : List (List Int)) : Prop where
  pl : pool.length = K
  k6 : K ≤ 6
  rl : ∀ j, j < K → (nget pool (j + 1)).length ≤ 6
theorem ofs_bnd {K : Nat} {pool : List (List Int)} (h : Rws K pool) {m : Int} (h0 : 0 ≤ m) : ∀ i, i ≤ K → m ≤ ofs pool m i ∧ ofs pool m i ≤ m + 6 * i
  | 0, _ => by simp [ofs]
  | i + 1, hi => by
    have h1 := ofs_bnd h h0 i (by omega)
    have h2 := h.rl i (by omega)
    simp only [ofs]
    omega
theorem markRow {K : Nat} {pool : List (List Int)} {ix : List Nat} {k : Nat} {m : Int} (h1 : 1 ≤ k) (h2 : k ≤ pool.length) (hl : (nget pool k).length ≤ 6) (h0 : 0 ≤ m) (hm : m ≤ 1000) :
    laws_markInt64S_nst_g pool ix k m = some (m + (nget pool k).length, pool.set (k - 1) (marksI m (nget pool k).length)) := by
  obtain ⟨row, hrow⟩ : ∃ row, row = nget pool k := ⟨_, rfl⟩
  rw [← hrow] at hl ⊢
  have hg : ∀ r, nget (pool.set (k - 1) r) k = r := fun r => by rw [nget_set h1 h2, if_pos rfl]
  have hs : ∀ r r', (pool.set (k - 1) r).set (k - 1) r' = pool.set (k - 1) r' := fun r r' => List.set_set ..
  have := whileM_fix (T := fun s => (laws_markInt64S_nst_l0_T k s).run) (n := row.length) (r := (m + row.length, pool.set (k - 1) (marksI m row.length)))
    (fun i => (m + (i : Nat), ((i : Nat) : Int), pool.set (k - 1) (markedI m row i)))
    (fun i hi => by
      have e : IntKind.i64.wrap (m + (i : Int) + 1) = m + ((i + 1 : Nat) : Int) := by rw [w64 (by omega) (by omega)]; omega
      have hml := markedI_length m row i (by omega)
      simp only [laws_markInt64S_nst_l0_T, Tree.run, hg, hml, lt_nat', hi, inb_nat, decide_true, if_true, Int.toNat_natCast, e, w_succ (show i < 4611686018427387904 by omega), hs, markedI_set m row i hi])
    (by
      simp only [laws_markInt64S_nst_l0_T, Tree.run, hg, markedI_full, marksI_length, lt_nat', Nat.lt_irrefl, decide_false, Bool.false_eq_true, if_false])
  have e0 : pool.set (k - 1) (markedI m row 0) = pool := by
    rw [markedI_zero, hrow]
    obtain ⟨i, rfl⟩ : ∃ i, k = i + 1 := ⟨k - 1, by omega⟩
    simp only [Nat.add_sub_cancel, nget]
    rw [nth_of _ _ (by omega), List.set_getElem_self]
  rw [e0, show ((0 : Nat) : Int) = 0 from rfl, Int.add_zero] at this
  simp only [laws_markInt64S_nst_g, laws_markInt64S_nst_T, Tree.run, if_true, laws_markInt64S_nst_l0_g, this, Option.bind_some]
theorem markSS {K : Nat} {pool : List (List Int)} (h : Rws K pool) {m : Int} (h0 : 0 ≤ m) (hm : m ≤ 100) : laws_markInt64SS_nst_g pool (ixO K) m = some (ofs pool m K, mkP pool m K) := by
  have hpl := h.pl
  have hk6 := h.k6
  have := whileM_fix (T := fun s => (laws_markInt64SS_nst_l0_T (ixO K) s).run) (n := K) (r := (ofs pool m K, mkP pool m K)) (fun i => (ofs pool m i, ((i : Nat) : Int), mkP pool m i))
    (fun i hi => by
      have hb := ofs_bnd h h0 i (by omega)
      have hg := mkP_get (pool := pool) m i i (by omega) (by omega)
      rw [if_neg (by omega)] at hg
      have hr := markRow (K := K) (pool := mkP pool m i) (ix := ixO K) (k := i + 1) (m := ofs pool m i) (by omega) (by rw [mkP_len]; omega) (by rw [hg]; exact h.rl i hi) (by omega) (by omega)
      rw [hg, Nat.add_sub_cancel] at hr
      simp only [laws_markInt64SS_nst_l0_T, Tree.run, ixO_len, lt_nat', hi, inb_nat, decide_true, if_true, Int.toNat_natCast, ixO_nth hi, hr, Option.bind_some, w_succ (show i < 4611686018427387904 by omega)]
      rfl)
    (by simp only [laws_markInt64SS_nst_l0_T, Tree.run, ixO_len, lt_nat', Nat.lt_irrefl, decide_false, Bool.false_eq_true, if_false])
  rw [show ((0 : Nat) : Int) = 0 from rfl] at this
  have this : whileM (fun s => (laws_markInt64SS_nst_l0_T (ixO K) s).run) (m, (0 : Int), pool) = some (ofs pool m K, mkP pool m K) := this
  simp only [laws_markInt64SS_nst_g, laws_markInt64SS_nst_T, Tree.run, if_true, laws_markInt64SS_nst_l0_g, this, Option.bind_some]
theorem heldSS {K : Nat} {pool : List (List Int)} (h : Rws K pool) {m : Int} (h0 : 0 ≤ m) (hm : m ≤ 100) : laws_heldInt64SS_nst_g (mkP pool m K) (ixO K) m = some (ofs pool m K) := by
  have hpl := h.pl
  have hk6 := h.k6
  have := whileM_fix (T := fun s => (laws_heldInt64SS_nst_l0_T (mkP pool m K) (ixO K) s).run) (n := K) (r := .inr (ofs pool m K)) (fun i => (ofs pool m i, ((i : Nat) : Int)))
    (fun i hi => by
      have hb := ofs_bnd h h0 i (by omega)
      have hg := mkP_get (pool := pool) m K i (by omega) (by omega)
      rw [if_pos hi] at hg
      have hrl := h.rl i hi
      have hh := heldI_ok (ofs pool m i) (nget pool (i + 1)).length (by unfold maxN; omega) (by omega) (by omega)
      have hneg : decide (ofs pool m i + ((nget pool (i + 1)).length : Int) < 0) = false := decide_eq_false (by omega)
      simp only [laws_heldInt64SS_nst_l0_T, Tree.run, ixO_len, lt_nat', hi, inb_nat, decide_true, if_true, Int.toNat_natCast, ixO_nth hi, hg, hh, Option.bind_some, hneg, Bool.false_eq_true, if_false, w_succ (show i < 4611686018427387904 by omega)]
      rfl)
    (by simp only [laws_heldInt64SS_nst_l0_T, Tree.run, ixO_len, lt_nat', Nat.lt_irrefl, decide_false, Bool.false_eq_true, if_false])
  rw [show ((0 : Nat) : Int) = 0 from rfl] at this
  have this : whileM (fun s => (laws_heldInt64SS_nst_l0_T (mkP pool m K) (ixO K) s).run) (m, (0 : Int)) = some (.inr (ofs pool m K)) := this
  simp only [laws_heldInt64SS_nst_g, laws_heldInt64SS_nst_T, Tree.run, if_true, laws_heldInt64SS_nst_l0_g, this, Option.bind_some]
theorem eqSS {K : Nat} {pool : List (List Int)} (h : Rws K pool) : laws_eqInt64SS_nst_i2_g pool (ixO K) pool (ixO K) = some true := by
  have hk6 := h.k6
  have := whileM_fix (T := fun s => (laws_eqInt64SS_nst_i2_l0_T pool (ixO K) pool (ixO K) s).run) (n := K) (r := .inr ()) (fun i => ((i : Nat) : Int))
    (fun i hi => by
      have hrl := h.rl i hi
      have he := eqI_self (nget pool (i + 1)) (by unfold maxN; omega)
      simp only [laws_eqInt64SS_nst_i2_l0_T, Tree.run, ixO_len, lt_nat', hi, inb_nat, decide_true, if_true, Int.toNat_natCast, ixO_nth hi, he, Option.bind_some, Bool.not_true, Bool.false_eq_true, if_false, w_succ (show i < 4611686018427387904 by omega)])
    (by simp only [laws_eqInt64SS_nst_i2_l0_T, Tree.run, ixO_len, lt_nat', Nat.lt_irrefl, decide_false, Bool.false_eq_true, if_false])
  rw [show ((0 : Nat) : Int) = 0 from rfl] at this
  simp only [laws_eqInt64SS_nst_i2_g, laws_eqInt64SS_nst_i2_T, Tree.run, decide_true, Bool.not_true, Bool.false_eq_true, if_false, if_true, laws_eqInt64SS_nst_i2_l0_g, this, Option.bind_some]
theorem eqSS0 : laws_eqInt64SS_g = some true := by
  have : whileM (fun s => (laws_eqInt64SS_l0_T s).run) () = some () := by
    rw [whileM_eq]; simp [laws_eqInt64SS_l0_T, Tree.run]
  simp [laws_eqInt64SS_g, laws_eqInt64SS_T, Tree.run, laws_eqInt64SS_l0_g, this]
theorem markSS0 (k : Int) : laws_markInt64SS_g k = some k := by
  have : whileM (fun s => (laws_markInt64SS_l0_T s).run) () = some () := by
    rw [whileM_eq]; simp [laws_markInt64SS_l0_T, Tree.run]
  simp [laws_markInt64SS_g, laws_markInt64SS_T, Tree.run, laws_markInt64SS_l0_g, this]
theorem heldSS0 (k : Int) : laws_heldInt64SS_g k = some k := by
  have : whileM (fun s => (laws_heldInt64SS_l0_T s).run) () = some () := by
    rw [whileM_eq]; simp [laws_heldInt64SS_l0_T, Tree.run]
  simp [laws_heldInt64SS_g, laws_heldInt64SS_T, Tree.run, laws_heldInt64SS_l0_g, this]
end Go.Proofs.Ytimlecagkbbnpaa.AM
