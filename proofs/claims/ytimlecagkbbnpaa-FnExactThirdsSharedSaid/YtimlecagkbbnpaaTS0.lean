/- Lists of thirds: the words of both sides. -/
import Derived.Test.YtimlecagkbbnpaaL7
set_option linter.unusedSimpArgs false
set_option linter.unusedVariables false
set_option maxHeartbeats 2000000
namespace Go.Proofs.Ytimlecagkbbnpaa.AM

theorem wl_inl {σ ρ : Type} {T : σ → Option (σ ⊕ ρ)} {s s' : σ} {r : Option ρ} (h : T s = some (.inl s')) (h' : whileM T s' = r) : whileM T s = r := by rw [whileM_eq, h]; exact h'
theorem wl_inr {σ ρ : Type} {T : σ → Option (σ ⊕ ρ)} {s : σ} {r : ρ} (h : T s = some (.inr r)) : whileM T s = some r := by rw [whileM_eq, h]
theorem ltn (a b : Nat) : decide ((a : Int) < (b : Int)) = decide (a < b) := by
  by_cases h : a < b
  · rw [decide_eq_true h]; exact decide_eq_true (by omega)
  · rw [decide_eq_false h]; exact decide_eq_false (by omega)
/-- Which row belongs to which element: each has its own. -/
def ixR (K : Nat) : List Nat := (List.range K).map (· + 1)
theorem ixR_len (K : Nat) : (ixR K).length = K := by simp [ixR]
theorem ixR_nth {K i : Nat} (h : i < K) : nth (ixR K) i = i + 1 := by
  rw [nth_of _ _ (by rw [ixR_len]; exact h)]; simp [ixR]
theorem ixR_succ (K : Nat) : ixR (K + 1) = ixR K ++ [K + 1] := by simp [ixR, List.range_succ]
/-- The first i elements have their rows. -/
def ixF (K i : Nat) : List Nat := (List.range K).map fun j => if j < i then j + 1 else 0
theorem ixF_len (K i : Nat) : (ixF K i).length = K := by simp [ixF]
theorem ixF_zero (K : Nat) : ixF K 0 = List.replicate K 0 := by
  refine List.ext_getElem (by simp [ixF]) fun j h1 h2 => by simp [ixF]
theorem ixF_full (K : Nat) : ixF K K = ixR K := by
  unfold ixF ixR
  refine List.map_congr_left fun j hj => ?_
  rw [if_pos (List.mem_range.1 hj)]
theorem ixF_set {K i : Nat} (h : i < K) : (ixF K i).set i (i + 1) = ixF K (i + 1) := by
  refine List.ext_getElem (by simp [ixF]) fun j h1 h2 => ?_
  rw [List.getElem_set]
  simp only [ixF, List.getElem_map, List.getElem_range]
  by_cases e : i = j
  · subst e; rw [if_pos rfl, if_pos (by omega)]
  · rw [if_neg e]
    by_cases hj : j < i
    · rw [if_pos hj, if_pos (by omega)]
    · rw [if_neg hj, if_neg (by omega)]
theorem take_nth' {α : Type} [Inhabited α] (xs : List α) (i : Nat) (h : i < xs.length) : xs.take i ++ [nth xs i] = xs.take (i + 1) := by
  rw [nth_of _ _ h]; simp
theorem nget_app {pool : List (List Nat)} {x : List Nat} {j : Nat} (h : j ≤ pool.length) : nget (pool ++ [x]) (j + 1) = if j < pool.length then nget pool (j + 1) else x := by
  simp only [nget]
  unfold nth
  rw [List.getD_eq_getElem?_getD, List.getD_eq_getElem?_getD]
  split
  · rename_i hj; rw [List.getElem?_append_left hj]
  · have : j = pool.length := by omega
    subst this; simp
theorem ng_set {α : Type} {xs : List (List α)} {k q : Nat} {r : List α} (h1 : 1 ≤ k) (h2 : k ≤ xs.length) : nget (xs.set (k - 1) r) q = if q = k then r else nget xs q := by
  obtain ⟨k, rfl⟩ : ∃ j, k = j + 1 := ⟨k - 1, by omega⟩
  rw [Nat.add_sub_cancel]
  cases q with
  | zero => simp [nget]
  | succ q =>
    simp only [nget]
    unfold nth
    rw [List.getD_eq_getElem?_getD, List.getD_eq_getElem?_getD, List.getElem?_set]
    by_cases e : k = q
    · subst e; simp [show k < xs.length by omega]
    · rw [if_neg e, if_neg (by omega)]
theorem mark_big (xs : List Nat) (k : Int) (h : xs.length ≤ maxN) (h0 : 0 ≤ k) (h1 : k ≤ 1152921504606846976) : laws_markFloat32S_g xs k = some (k + xs.length, marks k xs.length) := by
  unfold maxN at h
  have := whileM_fix (T := fun s => (laws_markFloat32S_l0_T s).run) (n := xs.length) (r := (k + xs.length, marks k xs.length)) (fun i => (k + (i : Nat), ((i : Nat) : Int), marked k xs i))
    (fun i hi => by
      have e : IntKind.i64.wrap (k + (i : Int) + 1) = k + ((i + 1 : Nat) : Int) := by rw [w64 (by omega) (by omega)]; omega
      have hml := marked_length k xs i (by omega)
      simp only [laws_markFloat32S_l0_T, Tree.run, hml, ltn, hi, inb_nat, decide_true, if_true, Int.toNat_natCast, e, w_succ (show i < 4611686018427387904 by omega), marked_set k xs i hi])
    (by simp only [laws_markFloat32S_l0_T, Tree.run, marked_full, marks_length, ltn, Nat.lt_irrefl, decide_false, Bool.false_eq_true, if_false])
  rw [marked_zero, show ((0 : Nat) : Int) = 0 from rfl, Int.add_zero] at this
  simp only [laws_markFloat32S_g, laws_markFloat32S_T, Tree.run, if_true, laws_markFloat32S_l0_g, this, Option.bind_some]
theorem mrow0 (p0 p1 p2 : List (List Nat)) (i0 i1 i2 : List Nat) {k : Nat} {m : Int} (h1 : 1 ≤ k) (h2 : k ≤ p0.length) (hl : (nget p0 k).length ≤ maxN) (h0 : 0 ≤ m) (hm : m ≤ 1152921504606846976) :
    laws_markFloat32S_nst_g p0 i0 p1 i1 p2 i2 k m = some (m + (nget p0 k).length, p0.set (k - 1) (marks m (nget p0 k).length)) := by
  unfold maxN at hl
  obtain ⟨row, hrow⟩ : ∃ row, row = nget p0 k := ⟨_, rfl⟩
  rw [← hrow] at hl ⊢
  have hg : ∀ r, nget (p0.set (k - 1) r) k = r := fun r => by rw [ng_set h1 h2, if_pos rfl]
  have hs : ∀ r r', (p0.set (k - 1) r).set (k - 1) r' = p0.set (k - 1) r' := fun r r' => List.set_set ..
  have := whileM_fix (T := fun s => (laws_markFloat32S_nst_l0_T k s).run) (n := row.length) (r := (m + row.length, p0.set (k - 1) (marks m row.length)))
    (fun i => (m + (i : Nat), ((i : Nat) : Int), p0.set (k - 1) (marked m row i)))
    (fun i hi => by
      have e : IntKind.i64.wrap (m + (i : Int) + 1) = m + ((i + 1 : Nat) : Int) := by rw [w64 (by omega) (by omega)]; omega
      have hml := marked_length m row i (by omega)
      simp only [laws_markFloat32S_nst_l0_T, Tree.run, hg, hml, ltn, hi, inb_nat, decide_true, if_true, Int.toNat_natCast, e, w_succ (show i < 4611686018427387904 by omega), hs, marked_set m row i hi])
    (by
      simp only [laws_markFloat32S_nst_l0_T, Tree.run, hg, marked_full, marks_length, ltn, Nat.lt_irrefl, decide_false, Bool.false_eq_true, if_false])
  have e0 : p0.set (k - 1) (marked m row 0) = p0 := by
    rw [marked_zero, hrow]
    obtain ⟨i, rfl⟩ : ∃ i, k = i + 1 := ⟨k - 1, by omega⟩
    simp only [Nat.add_sub_cancel, nget]
    rw [nth_of _ _ (by omega), List.set_getElem_self]
  rw [e0, show ((0 : Nat) : Int) = 0 from rfl, Int.add_zero] at this
  simp only [laws_markFloat32S_nst_g, laws_markFloat32S_nst_T, Tree.run, if_true, laws_markFloat32S_nst_l0_g, this, Option.bind_some]
theorem mrow_i1 (p0 p1 p2 : List (List Nat)) (i0 i1 i2 : List Nat) {k : Nat} {m : Int} (h1 : 1 ≤ k) (h2 : k ≤ p1.length) (hl : (nget p1 k).length ≤ maxN) (h0 : 0 ≤ m) (hm : m ≤ 1152921504606846976) :
    laws_markFloat32S_nst_i1_g p0 i0 p1 i1 p2 i2 k m = some (m + (nget p1 k).length, p1.set (k - 1) (marks m (nget p1 k).length)) := by
  unfold maxN at hl
  obtain ⟨row, hrow⟩ : ∃ row, row = nget p1 k := ⟨_, rfl⟩
  rw [← hrow] at hl ⊢
  have hg : ∀ r, nget (p1.set (k - 1) r) k = r := fun r => by rw [ng_set h1 h2, if_pos rfl]
  have hs : ∀ r r', (p1.set (k - 1) r).set (k - 1) r' = p1.set (k - 1) r' := fun r r' => List.set_set ..
  have := whileM_fix (T := fun s => (laws_markFloat32S_nst_i1_l0_T k s).run) (n := row.length) (r := (m + row.length, p1.set (k - 1) (marks m row.length)))
    (fun i => (m + (i : Nat), ((i : Nat) : Int), p1.set (k - 1) (marked m row i)))
    (fun i hi => by
      have e : IntKind.i64.wrap (m + (i : Int) + 1) = m + ((i + 1 : Nat) : Int) := by rw [w64 (by omega) (by omega)]; omega
      have hml := marked_length m row i (by omega)
      simp only [laws_markFloat32S_nst_i1_l0_T, Tree.run, hg, hml, ltn, hi, inb_nat, decide_true, if_true, Int.toNat_natCast, e, w_succ (show i < 4611686018427387904 by omega), hs, marked_set m row i hi])
    (by
      simp only [laws_markFloat32S_nst_i1_l0_T, Tree.run, hg, marked_full, marks_length, ltn, Nat.lt_irrefl, decide_false, Bool.false_eq_true, if_false])
  have e0 : p1.set (k - 1) (marked m row 0) = p1 := by
    rw [marked_zero, hrow]
    obtain ⟨i, rfl⟩ : ∃ i, k = i + 1 := ⟨k - 1, by omega⟩
    simp only [Nat.add_sub_cancel, nget]
    rw [nth_of _ _ (by omega), List.set_getElem_self]
  rw [e0, show ((0 : Nat) : Int) = 0 from rfl, Int.add_zero] at this
  simp only [laws_markFloat32S_nst_i1_g, laws_markFloat32S_nst_i1_T, Tree.run, if_true, laws_markFloat32S_nst_i1_l0_g, this, Option.bind_some]
theorem mrow_i2 (p0 p1 p2 : List (List Nat)) (i0 i1 i2 : List Nat) {k : Nat} {m : Int} (h1 : 1 ≤ k) (h2 : k ≤ p2.length) (hl : (nget p2 k).length ≤ maxN) (h0 : 0 ≤ m) (hm : m ≤ 1152921504606846976) :
    laws_markFloat32S_nst_i2_g p0 i0 p1 i1 p2 i2 k m = some (m + (nget p2 k).length, p2.set (k - 1) (marks m (nget p2 k).length)) := by
  unfold maxN at hl
  obtain ⟨row, hrow⟩ : ∃ row, row = nget p2 k := ⟨_, rfl⟩
  rw [← hrow] at hl ⊢
  have hg : ∀ r, nget (p2.set (k - 1) r) k = r := fun r => by rw [ng_set h1 h2, if_pos rfl]
  have hs : ∀ r r', (p2.set (k - 1) r).set (k - 1) r' = p2.set (k - 1) r' := fun r r' => List.set_set ..
  have := whileM_fix (T := fun s => (laws_markFloat32S_nst_i2_l0_T k s).run) (n := row.length) (r := (m + row.length, p2.set (k - 1) (marks m row.length)))
    (fun i => (m + (i : Nat), ((i : Nat) : Int), p2.set (k - 1) (marked m row i)))
    (fun i hi => by
      have e : IntKind.i64.wrap (m + (i : Int) + 1) = m + ((i + 1 : Nat) : Int) := by rw [w64 (by omega) (by omega)]; omega
      have hml := marked_length m row i (by omega)
      simp only [laws_markFloat32S_nst_i2_l0_T, Tree.run, hg, hml, ltn, hi, inb_nat, decide_true, if_true, Int.toNat_natCast, e, w_succ (show i < 4611686018427387904 by omega), hs, marked_set m row i hi])
    (by
      simp only [laws_markFloat32S_nst_i2_l0_T, Tree.run, hg, marked_full, marks_length, ltn, Nat.lt_irrefl, decide_false, Bool.false_eq_true, if_false])
  have e0 : p2.set (k - 1) (marked m row 0) = p2 := by
    rw [marked_zero, hrow]
    obtain ⟨i, rfl⟩ : ∃ i, k = i + 1 := ⟨k - 1, by omega⟩
    simp only [Nat.add_sub_cancel, nget]
    rw [nth_of _ _ (by omega), List.set_getElem_self]
  rw [e0, show ((0 : Nat) : Int) = 0 from rfl, Int.add_zero] at this
  simp only [laws_markFloat32S_nst_i2_g, laws_markFloat32S_nst_i2_T, Tree.run, if_true, laws_markFloat32S_nst_i2_l0_g, this, Option.bind_some]
theorem mrow_i3 (p0 : List (List Nat)) (i0 : List Nat) {k : Nat} {m : Int} (h1 : 1 ≤ k) (h2 : k ≤ p0.length) (hl : (nget p0 k).length ≤ maxN) (h0 : 0 ≤ m) (hm : m ≤ 1152921504606846976) :
    laws_markFloat32S_nst_i3_g p0 i0 k m = some (m + (nget p0 k).length, p0.set (k - 1) (marks m (nget p0 k).length)) := by
  unfold maxN at hl
  obtain ⟨row, hrow⟩ : ∃ row, row = nget p0 k := ⟨_, rfl⟩
  rw [← hrow] at hl ⊢
  have hg : ∀ r, nget (p0.set (k - 1) r) k = r := fun r => by rw [ng_set h1 h2, if_pos rfl]
  have hs : ∀ r r', (p0.set (k - 1) r).set (k - 1) r' = p0.set (k - 1) r' := fun r r' => List.set_set ..
  have := whileM_fix (T := fun s => (laws_markFloat32S_nst_i3_l0_T k s).run) (n := row.length) (r := (m + row.length, p0.set (k - 1) (marks m row.length)))
    (fun i => (m + (i : Nat), ((i : Nat) : Int), p0.set (k - 1) (marked m row i)))
    (fun i hi => by
      have e : IntKind.i64.wrap (m + (i : Int) + 1) = m + ((i + 1 : Nat) : Int) := by rw [w64 (by omega) (by omega)]; omega
      have hml := marked_length m row i (by omega)
      simp only [laws_markFloat32S_nst_i3_l0_T, Tree.run, hg, hml, ltn, hi, inb_nat, decide_true, if_true, Int.toNat_natCast, e, w_succ (show i < 4611686018427387904 by omega), hs, marked_set m row i hi])
    (by
      simp only [laws_markFloat32S_nst_i3_l0_T, Tree.run, hg, marked_full, marks_length, ltn, Nat.lt_irrefl, decide_false, Bool.false_eq_true, if_false])
  have e0 : p0.set (k - 1) (marked m row 0) = p0 := by
    rw [marked_zero, hrow]
    obtain ⟨i, rfl⟩ : ∃ i, k = i + 1 := ⟨k - 1, by omega⟩
    simp only [Nat.add_sub_cancel, nget]
    rw [nth_of _ _ (by omega), List.set_getElem_self]
  rw [e0, show ((0 : Nat) : Int) = 0 from rfl, Int.add_zero] at this
  simp only [laws_markFloat32S_nst_i3_g, laws_markFloat32S_nst_i3_T, Tree.run, if_true, laws_markFloat32S_nst_i3_l0_g, this, Option.bind_some]
/-- n thirds. -/
structure Th (n : Nat) (p0 p1 p2 : List (List Nat)) : Prop where
  n20 : n ≤ 1048576
  l0 : p0.length = n
  l1 : p1.length = n
  l2 : p2.length = n
  r0 : ∀ j, j < n → (nget p0 (j + 1)).length ≤ maxN
  r1 : ∀ j, j < n → (nget p1 (j + 1)).length ≤ maxN
  r2 : ∀ j, j < n → (nget p2 (j + 1)).length ≤ maxN
theorem set_rows {n i : Nat} {p : List (List Nat)} {r : List Nat} (hl : p.length = n) (hi : i < n) (hr : r.length ≤ maxN) (h : ∀ j, j < n → (nget p (j + 1)).length ≤ maxN) : ∀ j, j < n → (nget (p.set i r) (j + 1)).length ≤ maxN := fun j hj => by
  have := ng_set (xs := p) (k := i + 1) (q := j + 1) (r := r) (by omega) (by omega)
  rw [Nat.add_sub_cancel] at this
  rw [this]
  split
  · exact hr
  · exact h j hj
theorem markTh_loop {n : Nat} : ∀ (d i : Nat) (m : Int) (p0 p1 p2 : List (List Nat)), i + d = n → Th n p0 p1 p2 → 0 ≤ m → m ≤ 1 + 3221225472 * (i : Int) →
    ∃ m' q0 q1 q2, laws_markThirdsS_nst_l0_g (ixR n) (ixR n) (ixR n) (m, (i : Int), p0, p1, p2) = some (m', q0, q1, q2) ∧ 0 ≤ m' ∧ m' ≤ 1 + 3221225472 * (n : Int)
  | 0, i, m, p0, p1, p2, hd, hT, h0, h1 => by
    have : i = n := by omega
    subst this
    refine ⟨m, p0, p1, p2, ?_, h0, h1⟩
    refine wl_inr (T := fun s => (laws_markThirdsS_nst_l0_T (ixR i) (ixR i) (ixR i) s).run) ?_
    simp only [laws_markThirdsS_nst_l0_T, Tree.run, ixR_len, ltn, Nat.lt_irrefl, decide_false, Bool.false_eq_true, if_false]
  | d + 1, i, m, p0, p1, p2, hd, hT, h0, h1 => by
    have hi : i < n := by omega
    have hn := hT.n20
    have b0 := hT.r0 i hi
    have b1 := hT.r1 i hi
    have b2 := hT.r2 i hi
    have c0 := b0
    have c1 := b1
    have c2 := b2
    unfold maxN at c0 c1 c2
    have k0 := mrow0 p0 p1 p2 (ixR n) (ixR n) (ixR n) (k := i + 1) (m := m) (by omega) (by rw [hT.l0]; omega) b0 h0 (by omega)
    rw [Nat.add_sub_cancel] at k0
    obtain ⟨m1, hm1⟩ : ∃ m1, m1 = m + ((nget p0 (i + 1)).length : Int) := ⟨_, rfl⟩
    obtain ⟨q0, hq0⟩ : ∃ q0, q0 = p0.set i (marks m (nget p0 (i + 1)).length) := ⟨_, rfl⟩
    rw [← hm1, ← hq0] at k0
    have k1 := mrow_i1 q0 p1 p2 (ixR n) (ixR n) (ixR n) (k := i + 1) (m := m1) (by omega) (by rw [hT.l1]; omega) b1 (by omega) (by omega)
    rw [Nat.add_sub_cancel] at k1
    obtain ⟨m2, hm2⟩ : ∃ m2, m2 = m1 + ((nget p1 (i + 1)).length : Int) := ⟨_, rfl⟩
    obtain ⟨q1, hq1⟩ : ∃ q1, q1 = p1.set i (marks m1 (nget p1 (i + 1)).length) := ⟨_, rfl⟩
    rw [← hm2, ← hq1] at k1
    have k2 := mrow_i2 q0 q1 p2 (ixR n) (ixR n) (ixR n) (k := i + 1) (m := m2) (by omega) (by rw [hT.l2]; omega) b2 (by omega) (by omega)
    rw [Nat.add_sub_cancel] at k2
    obtain ⟨m3, hm3⟩ : ∃ m3, m3 = m2 + ((nget p2 (i + 1)).length : Int) := ⟨_, rfl⟩
    obtain ⟨q2, hq2⟩ : ∃ q2, q2 = p2.set i (marks m2 (nget p2 (i + 1)).length) := ⟨_, rfl⟩
    rw [← hm3, ← hq2] at k2
    have hT' : Th n q0 q1 q2 := ⟨hn, by rw [hq0]; simp [hT.l0], by rw [hq1]; simp [hT.l1], by rw [hq2]; simp [hT.l2],
      by rw [hq0]; exact set_rows hT.l0 hi (by rw [marks_length]; exact b0) hT.r0, by rw [hq1]; exact set_rows hT.l1 hi (by rw [marks_length]; exact b1) hT.r1, by rw [hq2]; exact set_rows hT.l2 hi (by rw [marks_length]; exact b2) hT.r2⟩
    obtain ⟨m', r0, r1, r2, g1, g2, g3⟩ := markTh_loop d (i + 1) m3 q0 q1 q2 (by omega) hT' (by omega) (by omega)
    refine ⟨m', r0, r1, r2, ?_, g2, g3⟩
    refine wl_inl (T := fun s => (laws_markThirdsS_nst_l0_T (ixR n) (ixR n) (ixR n) s).run) ?_ g1
    simp only [laws_markThirdsS_nst_l0_T, Tree.run, ixR_len, ltn, inb_nat, hi, decide_true, if_true, Int.toNat_natCast, ixR_nth hi, k0, k1, k2, Option.bind_some, w_succ (show i < 4611686018427387904 by omega)]
theorem markThS {n : Nat} {p0 p1 p2 : List (List Nat)} (hT : Th n p0 p1 p2) : ∃ m' q0 q1 q2, laws_markThirdsS_nst_g p0 (ixR n) p1 (ixR n) p2 (ixR n) 1 = some (m', q0, q1, q2) ∧ 0 ≤ m' ∧ m' ≤ 1 + 3221225472 * (n : Int) := by
  obtain ⟨m', q0, q1, q2, g1, g2, g3⟩ := markTh_loop n 0 1 p0 p1 p2 (by omega) hT (by omega) (by omega)
  refine ⟨m', q0, q1, q2, ?_, g2, g3⟩
  have g1' : laws_markThirdsS_nst_l0_g (ixR n) (ixR n) (ixR n) ((1 : Int), (0 : Int), p0, p1, p2) = some (m', q0, q1, q2) := g1
  simp only [laws_markThirdsS_nst_g, laws_markThirdsS_nst_T, Tree.run, if_true, g1', Option.bind_some]
theorem nth_nget (p : List (List Nat)) (i : Nat) : nget p (i + 1) = nth p i := rfl
theorem toThS {n : Nat} {p0 p1 p2 : List (List Nat)} (hT : Th n p0 p1 p2) : laws_toThirdsS_g p0 p1 p2 = some (p0, ixR n, p1, ixR n, p2, ixR n) := by
  have hn := hT.n20
  have := whileM_fix (T := fun s => (laws_toThirdsS_l0_T p0 p1 p2 s).run) (n := n) (r := (p0, ixR n, p1, ixR n, p2, ixR n)) (fun i => (((i : Nat) : Int), p0.take i, ixF n i, p1.take i, ixF n i, p2.take i, ixF n i))
    (fun i hi => by
      have h0 : i < p0.length := by rw [hT.l0]; exact hi
      have h1 : i < p1.length := by rw [hT.l1]; exact hi
      have h2 : i < p2.length := by rw [hT.l2]; exact hi
      have k := toT_ok (nth p0 i) (nth p1 i) (nth p2 i) (hT.r0 i hi) (hT.r1 i hi) (hT.r2 i hi)
      have e0 : (p0.take i).length = i := by simp; omega
      have e1 : (p1.take i).length = i := by simp; omega
      have e2 : (p2.take i).length = i := by simp; omega
      simp only [laws_toThirdsS_l0_T, Tree.run, ltn, inb_nat, hT.l0, hi, decide_true, if_true, Int.toNat_natCast, k, Option.bind_some, ixF_len, e0, e1, e2, take_nth' _ _ h0, take_nth' _ _ h1, take_nth' _ _ h2, ixF_set hi, w_succ (show i < 4611686018427387904 by omega)])
    (by
      have e0 : p0.take n = p0 := List.take_of_length_le (by rw [hT.l0]; exact Nat.le_refl _)
      have e1 : p1.take n = p1 := List.take_of_length_le (by rw [hT.l1]; exact Nat.le_refl _)
      have e2 : p2.take n = p2 := List.take_of_length_le (by rw [hT.l2]; exact Nat.le_refl _)
      simp only [laws_toThirdsS_l0_T, Tree.run, hT.l0, ltn, Nat.lt_irrefl, decide_false, Bool.false_eq_true, if_false, ixF_full, e0, e1, e2])
  rw [ixF_zero, List.take_zero, List.take_zero, List.take_zero] at this
  have this : laws_toThirdsS_l0_g p0 p1 p2 ((0 : Int), ([] : List (List Nat)), List.replicate n (0 : Nat), ([] : List (List Nat)), List.replicate n (0 : Nat), ([] : List (List Nat)), List.replicate n (0 : Nat)) = some (p0, ixR n, p1, ixR n, p2, ixR n) := this
  have hin : inb ((n : Nat) : Int) (maxN + 1) = true := by rw [inb_nat]; unfold maxN; simp; omega
  simp only [laws_toThirdsS_g, laws_toThirdsS_T, Tree.run, hT.l0, if_true, hin, Int.toNat_natCast, this, Option.bind_some]
theorem eqThS {n : Nat} {p0 p1 p2 : List (List Nat)} (hT : Th n p0 p1 p2) : laws_eqThirdsS_nst_g p0 (ixR n) p1 (ixR n) p2 (ixR n) p0 (ixR n) p1 (ixR n) p2 (ixR n) = some true := by
  have hn := hT.n20
  have := whileM_fix (T := fun s => (laws_eqThirdsS_nst_l0_T p0 (ixR n) p1 (ixR n) p2 (ixR n) p0 (ixR n) p1 (ixR n) p2 (ixR n) s).run) (n := n) (r := .inr ()) (fun i => ((i : Nat) : Int))
    (fun i hi => by
      have he := eqT_self (nget p0 (i + 1)) (nget p1 (i + 1)) (nget p2 (i + 1)) (hT.r0 i hi) (hT.r1 i hi) (hT.r2 i hi)
      simp only [laws_eqThirdsS_nst_l0_T, Tree.run, ixR_len, ltn, hi, inb_nat, decide_true, if_true, Int.toNat_natCast, ixR_nth hi, he, Option.bind_some, Bool.not_true, Bool.false_eq_true, if_false, w_succ (show i < 4611686018427387904 by omega)])
    (by simp only [laws_eqThirdsS_nst_l0_T, Tree.run, ixR_len, ltn, Nat.lt_irrefl, decide_false, Bool.false_eq_true, if_false])
  rw [show ((0 : Nat) : Int) = 0 from rfl] at this
  simp only [laws_eqThirdsS_nst_g, laws_eqThirdsS_nst_T, Tree.run, decide_true, Bool.not_true, Bool.false_eq_true, if_false, if_true, laws_eqThirdsS_nst_l0_g, this, Option.bind_some]
/-- The size is told. -/
theorem szThS_loop (p0 p1 p2 : List (List Nat)) (hl : p0.length < 4611686018427387904) : ∀ (d i : Nat) (left : Int), i + d = p0.length → ∃ r, laws_szThirdsS_l0_g p0 p1 p2 (left, (i : Int)) = some r
  | 0, i, left, hd => by
    have : i = p0.length := by omega
    refine ⟨.inr left, wl_inr (T := fun s => (laws_szThirdsS_l0_T p0 p1 p2 s).run) ?_⟩
    simp only [laws_szThirdsS_l0_T, Tree.run, this, ltn, Nat.lt_irrefl, decide_false, Bool.false_eq_true, if_false]
  | d + 1, i, left, hd => by
    have hi : i < p0.length := by omega
    by_cases hv : laws_szThirds_v (nth p0 i) (nth p1 i) (nth p2 i) left < 0
    · refine ⟨.inl (), wl_inr (T := fun s => (laws_szThirdsS_l0_T p0 p1 p2 s).run) ?_⟩
      simp only [laws_szThirdsS_l0_T, Tree.run, ltn, inb_nat, hi, decide_true, if_true, Int.toNat_natCast, hv]
    · obtain ⟨r, hr⟩ := szThS_loop p0 p1 p2 hl d (i + 1) (laws_szThirds_v (nth p0 i) (nth p1 i) (nth p2 i) left) (by omega)
      refine ⟨r, wl_inl (T := fun s => (laws_szThirdsS_l0_T p0 p1 p2 s).run) ?_ hr⟩
      simp only [laws_szThirdsS_l0_T, Tree.run, ltn, inb_nat, hi, decide_true, if_true, Int.toNat_natCast, hv, decide_false, Bool.false_eq_true, if_false, w_succ (show i < 4611686018427387904 by omega)]
theorem szThS (p0 p1 p2 : List (List Nat)) (hl : p0.length < 9223372036854775808) : ∃ k, laws_szThirdsS_g p0 p1 p2 1048576 = some k ∧ (¬ k < 0 → p0.length ≤ 1048576) := by
  have w : IntKind.i64.wrap (1048576 - ((p0.length : Nat) : Int)) = 1048576 - ((p0.length : Nat) : Int) := w64 (by omega) (by omega)
  by_cases hb : (1048576 : Int) - ((p0.length : Nat) : Int) < 0
  · refine ⟨-1, ?_, fun h => absurd (by decide) h⟩
    simp only [laws_szThirdsS_g, laws_szThirdsS_T, Tree.run, w, hb, decide_true, if_true]
  · obtain ⟨r, hr⟩ := szThS_loop p0 p1 p2 (by omega) p0.length 0 (1048576 - ((p0.length : Nat) : Int)) (by omega)
    have hr : laws_szThirdsS_l0_g p0 p1 p2 (1048576 - ((p0.length : Nat) : Int), (0 : Int)) = some r := hr
    cases r with
    | inl u =>
      refine ⟨-1, ?_, fun h => absurd (by decide) h⟩
      simp only [laws_szThirdsS_g, laws_szThirdsS_T, Tree.run, w, hb, decide_false, Bool.false_eq_true, if_false, if_true, hr, Option.bind_some]
    | inr k =>
      refine ⟨k, ?_, fun _ => by omega⟩
      simp only [laws_szThirdsS_g, laws_szThirdsS_T, Tree.run, w, hb, decide_false, Bool.false_eq_true, if_false, if_true, hr, Option.bind_some]
/-- Thirds that are too long are told by their lengths. -/
theorem szT_any (a b c : Nat) (l : Int) (h0 : 0 ≤ l) (h1 : l ≤ 1048576) (ha : a < 9223372036854775808) (hb : b < 9223372036854775808) (hc : c < 9223372036854775808) :
    (laws_szThirds_len_v a b c l < 0) ∨ (0 ≤ laws_szThirds_len_v a b c l ∧ laws_szThirds_len_v a b c l ≤ 1048576 ∧ a ≤ maxN ∧ b ≤ maxN ∧ c ≤ maxN) := by
  unfold laws_szThirds_len_v maxN
  rw [szF_len a l h0 h1 ha]
  by_cases c1 : (a : Int) ≤ l
  · rw [if_pos c1, if_neg (by simp; omega), szF_len b _ (by omega) (by omega) hb]
    by_cases c2 : (b : Int) ≤ l - a
    · rw [if_pos c2, if_neg (by simp; omega), szF_len c _ (by omega) (by omega) hc]
      by_cases c3 : (c : Int) ≤ l - a - b
      · rw [if_pos c3, if_neg (by simp; omega)]; right; omega
      · rw [if_neg c3]; left; decide
    · rw [if_neg c2]; left; simp
  · rw [if_neg c1]; left; simp
theorem szThL_loop (n : Nat) (a b c : List Nat) (la : a.length = n) (ha : ∀ i, i < n → nth a i < 9223372036854775808) (hb : ∀ i, i < n → nth b i < 9223372036854775808) (hc : ∀ i, i < n → nth c i < 9223372036854775808) (hn : n < 4611686018427387904)
    (q : Nat) (hq : q < n) (big : maxN < nth a q ∨ maxN < nth b q ∨ maxN < nth c q) : ∀ (d i : Nat) (left : Int), i + d = q → 0 ≤ left → left ≤ 1048576 → laws_szThirdsS_len_l0_g a b c (left, (i : Int)) = some (.inl ())
  | 0, i, left, hd, h0, h1 => by
    have : i = q := by omega
    subst this
    have hv : laws_szThirds_len_v (nth a i) (nth b i) (nth c i) left < 0 := by
      rcases szT_any (nth a i) (nth b i) (nth c i) left h0 h1 (ha i hq) (hb i hq) (hc i hq) with h | ⟨_, _, h⟩
      · exact h
      · omega
    refine wl_inr (T := fun s => (laws_szThirdsS_len_l0_T a b c s).run) ?_
    simp only [laws_szThirdsS_len_l0_T, Tree.run, ltn, inb_nat, la, hq, decide_true, if_true, Int.toNat_natCast, hv]
  | d + 1, i, left, hd, h0, h1 => by
    have hi : i < n := by omega
    rcases szT_any (nth a i) (nth b i) (nth c i) left h0 h1 (ha i hi) (hb i hi) (hc i hi) with hv | ⟨g0, g1, _⟩
    · refine wl_inr (T := fun s => (laws_szThirdsS_len_l0_T a b c s).run) ?_
      simp only [laws_szThirdsS_len_l0_T, Tree.run, ltn, inb_nat, la, hi, decide_true, if_true, Int.toNat_natCast, hv]
    · have hv : ¬ (laws_szThirds_len_v (nth a i) (nth b i) (nth c i) left < 0) := by omega
      refine wl_inl (T := fun s => (laws_szThirdsS_len_l0_T a b c s).run) ?_ (szThL_loop n a b c la ha hb hc hn q hq big d (i + 1) (laws_szThirds_len_v (nth a i) (nth b i) (nth c i) left) (by omega) g0 g1)
      simp only [laws_szThirdsS_len_l0_T, Tree.run, ltn, inb_nat, la, hi, decide_true, if_true, Int.toNat_natCast, hv, decide_false, Bool.false_eq_true, if_false, w_succ (show i < 4611686018427387904 by omega)]
theorem szThL {n : Nat} (a b c : List Nat) (la : a.length = n) (ha : ∀ i, i < n → nth a i < 9223372036854775808) (hb : ∀ i, i < n → nth b i < 9223372036854775808) (hc : ∀ i, i < n → nth c i < 9223372036854775808) (hn : n < 9223372036854775808)
    (big : ∃ q, q < n ∧ (maxN < nth a q ∨ maxN < nth b q ∨ maxN < nth c q)) : laws_szThirdsS_len_g a b c 1048576 = some (-1) := by
  obtain ⟨q, hq, big⟩ := big
  have w : IntKind.i64.wrap (1048576 - ((n : Nat) : Int)) = 1048576 - ((n : Nat) : Int) := w64 (by omega) (by omega)
  by_cases hb' : (1048576 : Int) - ((n : Nat) : Int) < 0
  · simp only [laws_szThirdsS_len_g, laws_szThirdsS_len_T, Tree.run, la, w, hb', decide_true, if_true]
  · have hr : laws_szThirdsS_len_l0_g a b c (1048576 - ((n : Nat) : Int), (0 : Int)) = some (.inl ()) := szThL_loop n a b c la ha hb hc (by omega) q hq big q 0 _ (by omega) (by omega) (by omega)
    simp only [laws_szThirdsS_len_g, laws_szThirdsS_len_T, Tree.run, la, w, hb', decide_false, Bool.false_eq_true, if_false, if_true, hr, Option.bind_some]
/-! the rows that come out -/
structure Rf (K : Nat) (pool : List (List Nat)) : Prop where
  pl : pool.length = K
  k8 : K ≤ 8
  rl : ∀ j, j < K → (nget pool (j + 1)).length ≤ 144
def ofF (pool : List (List Nat)) (m : Int) : Nat → Int
  | 0 => m
  | i + 1 => ofF pool m i + (nget pool (i + 1)).length
theorem ofF_bd {K : Nat} {pool : List (List Nat)} (h : Rf K pool) (m : Int) : ∀ i, i ≤ K → m ≤ ofF pool m i ∧ ofF pool m i ≤ m + 144 * (i : Int)
  | 0, _ => by simp [ofF]
  | i + 1, hi => by
    have h1 := ofF_bd h m i (by omega)
    have h2 := h.rl i (by omega)
    simp only [ofF]
    omega
def mkF (pool : List (List Nat)) (m : Int) : Nat → List (List Nat)
  | 0 => pool
  | i + 1 => (mkF pool m i).set i (marks (ofF pool m i) (nget pool (i + 1)).length)
theorem mkF_len (pool : List (List Nat)) (m : Int) : ∀ i, (mkF pool m i).length = pool.length
  | 0 => rfl
  | i + 1 => by simp only [mkF, List.length_set]; exact mkF_len pool m i
theorem mkF_get {pool : List (List Nat)} (m : Int) : ∀ (i j : Nat), i ≤ pool.length → j < pool.length → nget (mkF pool m i) (j + 1) = if j < i then marks (ofF pool m j) (nget pool (j + 1)).length else nget pool (j + 1)
  | 0, j, _, hj => by simp [mkF]
  | i + 1, j, hi, hj => by
    have h := ng_set (xs := mkF pool m i) (k := i + 1) (q := j + 1) (r := marks (ofF pool m i) (nget pool (i + 1)).length) (by omega) (by rw [mkF_len]; exact hi)
    rw [Nat.add_sub_cancel] at h
    simp only [mkF]
    rw [h]
    by_cases e : j = i
    · subst e; rw [if_pos rfl, if_pos (by omega)]
    · rw [if_neg (by omega), mkF_get m i j (by omega) hj]
      by_cases hl : j < i
      · rw [if_pos hl, if_pos (by omega)]
      · rw [if_neg hl, if_neg (by omega)]
theorem markFF {K : Nat} {pool : List (List Nat)} (h : Rf K pool) : laws_markFloat32SS_nst_g pool (ixR K) 1 = some (ofF pool 1 K, mkF pool 1 K) := by
  have hpl := h.pl
  have hk := h.k8
  have := whileM_fix (T := fun s => (laws_markFloat32SS_nst_l0_T (ixR K) s).run) (n := K) (r := (ofF pool 1 K, mkF pool 1 K)) (fun i => (ofF pool 1 i, ((i : Nat) : Int), mkF pool 1 i))
    (fun i hi => by
      have hb := ofF_bd h 1 i (by omega)
      have hg := mkF_get (pool := pool) 1 i i (by omega) (by omega)
      rw [if_neg (by omega)] at hg
      have hr := mrow_i3 (mkF pool 1 i) (ixR K) (k := i + 1) (m := ofF pool 1 i) (by omega) (by rw [mkF_len]; omega) (by rw [hg]; have := h.rl i hi; unfold maxN; omega) (by omega) (by omega)
      rw [hg, Nat.add_sub_cancel] at hr
      simp only [laws_markFloat32SS_nst_l0_T, Tree.run, ixR_len, ltn, hi, inb_nat, decide_true, if_true, Int.toNat_natCast, ixR_nth hi, hr, Option.bind_some, w_succ (show i < 4611686018427387904 by omega)]
      rfl)
    (by simp only [laws_markFloat32SS_nst_l0_T, Tree.run, ixR_len, ltn, Nat.lt_irrefl, decide_false, Bool.false_eq_true, if_false])
  have this : whileM (fun s => (laws_markFloat32SS_nst_l0_T (ixR K) s).run) ((1 : Int), (0 : Int), pool) = some (ofF pool 1 K, mkF pool 1 K) := this
  simp only [laws_markFloat32SS_nst_g, laws_markFloat32SS_nst_T, Tree.run, if_true, laws_markFloat32SS_nst_l0_g, this, Option.bind_some]
theorem heldFF {K : Nat} {pool : List (List Nat)} (h : Rf K pool) : laws_heldFloat32SS_nst_g (mkF pool 1 K) (ixR K) 1 = some (ofF pool 1 K) := by
  have hpl := h.pl
  have hk := h.k8
  have := whileM_fix (T := fun s => (laws_heldFloat32SS_nst_l0_T (mkF pool 1 K) (ixR K) s).run) (n := K) (r := .inr (ofF pool 1 K)) (fun i => (ofF pool 1 i, ((i : Nat) : Int)))
    (fun i hi => by
      have hb := ofF_bd h 1 i (by omega)
      have hg := mkF_get (pool := pool) 1 K i (by omega) (by omega)
      rw [if_pos hi] at hg
      have hrl := h.rl i hi
      have hh := held_ok (ofF pool 1 i) (nget pool (i + 1)).length (by unfold maxN; omega) (by omega) (by omega)
      have hneg : decide (ofF pool 1 i + ((nget pool (i + 1)).length : Int) < 0) = false := decide_eq_false (by omega)
      simp only [laws_heldFloat32SS_nst_l0_T, Tree.run, ixR_len, ltn, hi, inb_nat, decide_true, if_true, Int.toNat_natCast, ixR_nth hi, hg, hh, Option.bind_some, hneg, Bool.false_eq_true, if_false, w_succ (show i < 4611686018427387904 by omega)]
      rfl)
    (by simp only [laws_heldFloat32SS_nst_l0_T, Tree.run, ixR_len, ltn, Nat.lt_irrefl, decide_false, Bool.false_eq_true, if_false])
  have this : whileM (fun s => (laws_heldFloat32SS_nst_l0_T (mkF pool 1 K) (ixR K) s).run) ((1 : Int), (0 : Int)) = some (.inr (ofF pool 1 K)) := this
  simp only [laws_heldFloat32SS_nst_g, laws_heldFloat32SS_nst_T, Tree.run, if_true, laws_heldFloat32SS_nst_l0_g, this, Option.bind_some]
theorem eqFF {K : Nat} {pool : List (List Nat)} (h : Rf K pool) : laws_eqFloat32SS_nst_i2_g pool (ixR K) pool (ixR K) = some true := by
  have hk := h.k8
  have := whileM_fix (T := fun s => (laws_eqFloat32SS_nst_i2_l0_T pool (ixR K) pool (ixR K) s).run) (n := K) (r := .inr ()) (fun i => ((i : Nat) : Int))
    (fun i hi => by
      have hrl := h.rl i hi
      have he := eqF_self (nget pool (i + 1)) (by unfold maxN; omega)
      simp only [laws_eqFloat32SS_nst_i2_l0_T, Tree.run, ixR_len, ltn, hi, inb_nat, decide_true, if_true, Int.toNat_natCast, ixR_nth hi, he, Option.bind_some, Bool.not_true, Bool.false_eq_true, if_false, w_succ (show i < 4611686018427387904 by omega)])
    (by simp only [laws_eqFloat32SS_nst_i2_l0_T, Tree.run, ixR_len, ltn, Nat.lt_irrefl, decide_false, Bool.false_eq_true, if_false])
  rw [show ((0 : Nat) : Int) = 0 from rfl] at this
  simp only [laws_eqFloat32SS_nst_i2_g, laws_eqFloat32SS_nst_i2_T, Tree.run, decide_true, Bool.not_true, Bool.false_eq_true, if_false, if_true, laws_eqFloat32SS_nst_i2_l0_g, this, Option.bind_some]
theorem eqFF0 : laws_eqFloat32SS_g = some true := by
  have : whileM (fun s => (laws_eqFloat32SS_l0_T s).run) () = some () := by
    rw [whileM_eq]; simp [laws_eqFloat32SS_l0_T, Tree.run]
  simp [laws_eqFloat32SS_g, laws_eqFloat32SS_T, Tree.run, laws_eqFloat32SS_l0_g, this]
theorem markFF0 (k : Int) : laws_markFloat32SS_g k = some k := by
  have : whileM (fun s => (laws_markFloat32SS_l0_T s).run) () = some () := by
    rw [whileM_eq]; simp [laws_markFloat32SS_l0_T, Tree.run]
  simp [laws_markFloat32SS_g, laws_markFloat32SS_T, Tree.run, laws_markFloat32SS_l0_g, this]
theorem heldFF0 (k : Int) : laws_heldFloat32SS_g k = some k := by
  have : whileM (fun s => (laws_heldFloat32SS_l0_T s).run) () = some () := by
    rw [whileM_eq]; simp [laws_heldFloat32SS_l0_T, Tree.run]
  simp [laws_heldFloat32SS_g, laws_heldFloat32SS_T, Tree.run, laws_heldFloat32SS_l0_g, this]
/-! both sides -/
theorem ths_loop {n : Nat} {p0 p1 p2 : List (List Nat)} (hT : Th n p0 p1 p2) (h8 : n ≤ 8) {v : List Nat} (hv : v.length ≤ maxN) : ∀ (d i : Nat) (pool : List (List Nat)), i + d = n → Rf i pool →
    ∃ r, impl_ThirdsShared_nst_l0_g p0 (ixR n) p1 (ixR n) p2 (ixR n) v ((i : Int), pool, ixR i) = some r ∧ spec_ThirdsShared_nst_l0_g p0 (ixR n) p1 (ixR n) p2 (ixR n) v ((i : Int), pool, ixR i) = some r ∧ (r = .inl () ∨ ∃ K pool', r = .inr (pool', ixR K) ∧ Rf K pool')
  | 0, i, pool, hd, hR => by
    have : i = n := by omega
    subst this
    refine ⟨.inr (pool, ixR i), ?_, ?_, .inr ⟨i, pool, rfl, hR⟩⟩
    · refine wl_inr (T := fun s => (impl_ThirdsShared_nst_l0_T p0 (ixR i) p1 (ixR i) p2 (ixR i) v s).run) ?_
      simp only [impl_ThirdsShared_nst_l0_T, Tree.run, ixR_len, ltn, Nat.lt_irrefl, decide_false, Bool.false_eq_true, if_false]
    · refine wl_inr (T := fun s => (spec_ThirdsShared_nst_l0_T p0 (ixR i) p1 (ixR i) p2 (ixR i) v s).run) ?_
      simp only [spec_ThirdsShared_nst_l0_T, Tree.run, ixR_len, ltn, Nat.lt_irrefl, decide_false, Bool.false_eq_true, if_false]
  | d + 1, i, pool, hd, hR => by
    have hi : i < n := by omega
    obtain ⟨r, i1, i2, i3⟩ := ts_both (nget p0 (i + 1)) (nget p1 (i + 1)) (nget p2 (i + 1)) v (hT.r0 i hi) (hT.r1 i hi) (hT.r2 i hi) hv
    cases r with
    | inl u =>
      refine ⟨.inl (), ?_, ?_, .inl rfl⟩
      · refine wl_inr (T := fun s => (impl_ThirdsShared_nst_l0_T p0 (ixR n) p1 (ixR n) p2 (ixR n) v s).run) ?_
        simp only [impl_ThirdsShared_nst_l0_T, Tree.run, ixR_len, ltn, inb_nat, hi, decide_true, if_true, Int.toNat_natCast, ixR_nth hi, i1, Option.bind_some]
      · refine wl_inr (T := fun s => (spec_ThirdsShared_nst_l0_T p0 (ixR n) p1 (ixR n) p2 (ixR n) v s).run) ?_
        simp only [spec_ThirdsShared_nst_l0_T, Tree.run, ixR_len, ltn, inb_nat, hi, decide_true, if_true, Int.toNat_natCast, ixR_nth hi, i2, Option.bind_some]
    | inr x =>
      have hx := i3 x rfl
      have hR' : Rf (i + 1) (pool ++ [x]) := by
        refine ⟨by simp [hR.pl], by omega, fun j hj => ?_⟩
        rw [nget_app (by rw [hR.pl]; omega), hR.pl]
        split
        · rename_i hl; exact hR.rl j hl
        · exact hx
      obtain ⟨r, g1, g2, g3⟩ := ths_loop hT h8 hv d (i + 1) (pool ++ [x]) (by omega) hR'
      have hf : fits (i + 1) = true := fits_iff.2 (by unfold maxN; omega)
      have hix : ixR i ++ [pool.length + 1] = ixR (i + 1) := by rw [ixR_succ, hR.pl]
      refine ⟨r, ?_, ?_, g3⟩
      · refine wl_inl (T := fun s => (impl_ThirdsShared_nst_l0_T p0 (ixR n) p1 (ixR n) p2 (ixR n) v s).run) ?_ g1
        simp only [impl_ThirdsShared_nst_l0_T, Tree.run, ixR_len, ltn, inb_nat, hi, decide_true, if_true, Int.toNat_natCast, ixR_nth hi, i1, Option.bind_some, hf, hix, w_succ (show i < 4611686018427387904 by omega)]
      · refine wl_inl (T := fun s => (spec_ThirdsShared_nst_l0_T p0 (ixR n) p1 (ixR n) p2 (ixR n) v s).run) ?_ g2
        simp only [spec_ThirdsShared_nst_l0_T, Tree.run, ixR_len, ltn, inb_nat, hi, decide_true, if_true, Int.toNat_natCast, ixR_nth hi, i2, Option.bind_some, hf, hix, w_succ (show i < 4611686018427387904 by omega)]
theorem in_same (k : Int) : impl_inRange_v k 1 8 = spec_l00In_v k 1 8 := by
  unfold impl_inRange_v spec_l00In_v
  by_cases h1 : (1 : Int) ≤ k <;> by_cases h2 : k ≤ 8 <;> simp [h1, h2]
theorem ths_both {n : Nat} {p0 p1 p2 : List (List Nat)} (hT : Th n p0 p1 p2) {v : List Nat} (hv : v.length ≤ maxN) (w : Int) :
    ∃ r, impl_ThirdsShared_nst_g p0 (ixR n) p1 (ixR n) p2 (ixR n) v w = some r ∧ spec_ThirdsShared_nst_g p0 (ixR n) p1 (ixR n) p2 (ixR n) v w = some r ∧ (r = .inl () ∨ ∃ K pool', r = .inr (pool', ixR K) ∧ Rf K pool') := by
  by_cases h8 : (8 : Int) < ((n : Nat) : Int)
  · exact ⟨.inl (), by simp only [impl_ThirdsShared_nst_g, impl_ThirdsShared_nst_T, Tree.run, ixR_len, h8, decide_true, if_true], by simp only [spec_ThirdsShared_nst_g, spec_ThirdsShared_nst_T, Tree.run, ixR_len, h8, decide_true, if_true], .inl rfl⟩
  · cases hw : spec_l00In_v w 1 8 with
    | false => exact ⟨.inl (), by simp only [impl_ThirdsShared_nst_g, impl_ThirdsShared_nst_T, Tree.run, ixR_len, h8, in_same, hw, decide_false, Bool.false_eq_true, if_false, Bool.not_false, if_true], by simp only [spec_ThirdsShared_nst_g, spec_ThirdsShared_nst_T, Tree.run, ixR_len, h8, hw, decide_false, Bool.false_eq_true, if_false, Bool.not_false, if_true], .inl rfl⟩
    | true =>
      obtain ⟨r, g1, g2, g3⟩ := ths_loop hT (by omega) hv n 0 [] (by omega) ⟨rfl, by omega, fun j hj => by omega⟩
      have g1 : impl_ThirdsShared_nst_l0_g p0 (ixR n) p1 (ixR n) p2 (ixR n) v ((0 : Int), ([] : List (List Nat)), ([] : List Nat)) = some r := g1
      have g2 : spec_ThirdsShared_nst_l0_g p0 (ixR n) p1 (ixR n) p2 (ixR n) v ((0 : Int), ([] : List (List Nat)), ([] : List Nat)) = some r := g2
      refine ⟨r, ?_, ?_, g3⟩
      · simp only [impl_ThirdsShared_nst_g, impl_ThirdsShared_nst_T, Tree.run, ixR_len, h8, in_same, hw, decide_false, Bool.false_eq_true, if_false, Bool.not_true, if_true, g1, Option.bind_some]
        cases r <;> rfl
      · simp only [spec_ThirdsShared_nst_g, spec_ThirdsShared_nst_T, Tree.run, ixR_len, h8, hw, decide_false, Bool.false_eq_true, if_false, Bool.not_true, if_true, g2, Option.bind_some]
        cases r <;> rfl
end Go.Proofs.Ytimlecagkbbnpaa.AM
