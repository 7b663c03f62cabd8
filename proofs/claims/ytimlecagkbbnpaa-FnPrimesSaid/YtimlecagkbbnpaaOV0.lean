/- Elimination over a prime: the words of both sides. -/
import Derived.Test.YtimlecagkbbnpaaPR0
set_option linter.unusedSimpArgs false
set_option linter.unusedVariables false
set_option maxHeartbeats 1000000
set_option maxRecDepth 100000
namespace Go.Proofs.Ytimlecagkbbnpaa.AM

/-- Two loops that count and do the same. -/
theorem for2 {σ ρ : Type} {T1 T2 : Int × σ → Option ((Int × σ) ⊕ ρ)} (I : Nat → σ → Prop) {n : Nat} (fin : σ → ρ)
    (step : ∀ (i : Nat) (s : σ), i < n → I i s → ∃ s', T1 ((i : Int), s) = some (.inl (((i + 1 : Nat) : Int), s')) ∧ T2 ((i : Int), s) = some (.inl (((i + 1 : Nat) : Int), s')) ∧ I (i + 1) s')
    (stop : ∀ s, I n s → T1 ((n : Int), s) = some (.inr (fin s)) ∧ T2 ((n : Int), s) = some (.inr (fin s))) :
    ∀ (d i : Nat) (s : σ), i + d = n → I i s → ∃ s', whileM T1 ((i : Int), s) = some (fin s') ∧ whileM T2 ((i : Int), s) = some (fin s') ∧ I n s'
  | 0, i, s, h, hI => by
    have : i = n := by omega
    subst this
    obtain ⟨h1, h2⟩ := stop s hI
    exact ⟨s, wi_inr h1, wi_inr h2, hI⟩
  | d + 1, i, s, h, hI => by
    obtain ⟨s', h1, h2, h3⟩ := step i s (by omega) hI
    obtain ⟨s'', k1, k2, k3⟩ := for2 I fin step stop d (i + 1) s' (by omega) h3
    exact ⟨s'', wi_inl h1 k1, wi_inl h2 k2, k3⟩
/-- One loop that counts. -/
theorem for1 {σ ρ : Type} {T : Int × σ → Option ((Int × σ) ⊕ ρ)} (I : Nat → σ → Prop) {n : Nat} (fin : σ → ρ)
    (step : ∀ (i : Nat) (s : σ), i < n → I i s → ∃ s', T ((i : Int), s) = some (.inl (((i + 1 : Nat) : Int), s')) ∧ I (i + 1) s')
    (stop : ∀ s, I n s → T ((n : Int), s) = some (.inr (fin s))) (s : σ) (h0 : I 0 s) : ∃ s', whileM T ((0 : Int), s) = some (fin s') ∧ I n s' := by
  obtain ⟨s', h1, _, h2⟩ := for2 (T1 := T) (T2 := T) I fin (fun i s hi hI => by obtain ⟨s', h1, h2⟩ := step i s hi hI; exact ⟨s', h1, h1, h2⟩) (fun s hI => ⟨stop s hI, stop s hI⟩) n 0 s (Nat.zero_add _) h0
  exact ⟨s', h1, h2⟩
theorem nget_set {α : Type} {xs : List (List α)} {k q : Nat} {r : List α} (h1 : 1 ≤ k) (h2 : k ≤ xs.length) : nget (xs.set (k - 1) r) q = if q = k then r else nget xs q := by
  obtain ⟨k, rfl⟩ : ∃ j, k = j + 1 := ⟨k - 1, by omega⟩
  rw [Nat.add_sub_cancel]
  cases q with
  | zero => simp [nget]
  | succ q =>
    simp only [nget]
    by_cases h : q = k
    · subst h; rw [if_pos rfl, nth_set_eq _ _ _ (by omega)]
    · rw [if_neg (by omega), nth_set_ne _ _ _ _ (fun e => h e.symm)]
/-- n rows of m numbers over p, and which one lies where. -/
structure Shape (n m p : Nat) (pool : List (List Int)) (ix : List Nat) : Prop where
  pl : pool.length = n
  il : ix.length = n
  ib : ∀ i, i < n → 1 ≤ nth ix i ∧ nth ix i ≤ n
  rl : ∀ k, 1 ≤ k → k ≤ n → (nget pool k).length = m
  rb : ∀ k, 1 ≤ k → k ≤ n → ∀ j, j < m → 0 ≤ nth (nget pool k) j ∧ nth (nget pool k) j < p
theorem Shape.upd {n m p k : Nat} {pool : List (List Int)} {ix : List Nat} (h : Shape n m p pool ix) {r : List Int} (h1 : 1 ≤ k) (h2 : k ≤ n) (hl : r.length = m) (hb : ∀ j, j < m → 0 ≤ nth r j ∧ nth r j < p) : Shape n m p (pool.set (k - 1) r) ix := by
  have hg : ∀ q, nget (pool.set (k - 1) r) q = if q = k then r else nget pool q := fun q => nget_set h1 (by rw [h.pl]; exact h2)
  refine ⟨by simpa using h.pl, h.il, h.ib, fun q q1 q2 => ?_, fun q q1 q2 j hj => ?_⟩
  · rw [hg]; split
    · exact hl
    · exact h.rl q q1 q2
  · rw [hg]; split
    · exact hb j hj
    · exact h.rb q q1 q2 j hj
/-- Two rows change their places. -/
def swI (ix : List Nat) (a r : Nat) : List Nat := (ix.set a (nth ix r)).set r (nth ix a)
theorem Shape.swap {n m p a r : Nat} {pool : List (List Int)} {ix : List Nat} (h : Shape n m p pool ix) (ha : a < n) (hr : r < n) : Shape n m p pool (swI ix a r) ∧ nth (swI ix a r) r = nth ix a := by
  have hil := h.il
  refine ⟨⟨h.pl, by simp [swI, hil], fun i hi => ?_, h.rl, h.rb⟩, ?_⟩
  · unfold swI
    by_cases e : r = i
    · subst e; rw [nth_set_eq _ _ _ (by simp; omega)]; exact h.ib a ha
    · rw [nth_set_ne _ _ _ _ e]
      by_cases e2 : a = i
      · subst e2; rw [nth_set_eq _ _ _ (by omega)]; exact h.ib r hr
      · rw [nth_set_ne _ _ _ _ e2]; exact h.ib i hi
  · unfold swI; rw [nth_set_eq _ _ _ (by simp; omega)]
/-- A place in a row of the pool turned. -/
def pt (pool : List (List Int)) (k j : Nat) (x : Int) : List (List Int) := pool.set (k - 1) ((nget pool k).set j x)
theorem Shape.pt {n m p k j : Nat} {pool : List (List Int)} {ix : List Nat} (h : Shape n m p pool ix) (h1 : 1 ≤ k) (h2 : k ≤ n) (hj : j < m) {x : Int} (hx : 0 ≤ x ∧ x < p) : Shape n m p (pt pool k j x) ix := by
  have hl := h.rl k h1 h2
  refine h.upd h1 h2 (by simpa using hl) fun i hi => ?_
  by_cases e : j = i
  · subst e; rw [nth_set_eq _ _ _ (by omega)]; exact hx
  · rw [nth_set_ne _ _ _ _ e]; exact h.rb k h1 h2 i hi
theorem pt_self {n m p k j : Nat} {pool : List (List Int)} {ix : List Nat} (h : Shape n m p pool ix) (h1 : 1 ≤ k) (h2 : k ≤ n) (hj : j < m) : pt pool k j (nth (nget pool k) j) = pool := by
  have hl := h.rl k h1 h2
  have hp := h.pl
  have e1 : (nget pool k).set j (nth (nget pool k) j) = nget pool k := by
    rw [nth_of _ _ (by omega), List.set_getElem_self]
  unfold AM.pt
  rw [e1]
  obtain ⟨i, rfl⟩ : ∃ i, k = i + 1 := ⟨k - 1, by omega⟩
  simp only [Nat.add_sub_cancel, nget]
  rw [nth_of _ _ (by omega), List.set_getElem_self]
theorem lt_nat' (a b : Nat) : decide ((a : Int) < (b : Int)) = decide (a < b) := by
  by_cases h : a < b
  · rw [decide_eq_true h]; exact decide_eq_true (by omega)
  · rw [decide_eq_false h]; exact decide_eq_false (by omega)
/-- The first row from a on that has a number other than 0 in a column. -/
theorem find_ok {T : Int → Option (Int ⊕ Int)} {n m p c : Nat} {pool : List (List Int)} {ix : List Nat} (hS : Shape n m p pool ix) (hc : c < m)
    (hT : ∀ i : Nat, i < n → T (i : Int) = if nth (nget pool (nth ix i)) c = 0 then some (.inl ((i + 1 : Nat) : Int)) else some (.inr (i : Int))) (he : T (n : Int) = some (.inr (n : Int))) :
    ∀ (d a : Nat), a + d = n → ∃ b : Nat, whileM T (a : Int) = some (b : Int) ∧ a ≤ b ∧ b ≤ n ∧ (b < n → nth (nget pool (nth ix b)) c ≠ 0)
  | 0, a, h => by
    have : a = n := by omega
    subst this
    exact ⟨a, wi_inr he, Nat.le_refl _, Nat.le_refl _, fun h => by omega⟩
  | d + 1, a, h => by
    have h1 := hT a (by omega)
    by_cases e : nth (nget pool (nth ix a)) c = 0
    · rw [if_pos e] at h1
      obtain ⟨b, k1, k2, k3, k4⟩ := find_ok hS hc hT he d (a + 1) (by omega)
      exact ⟨b, wi_inl h1 k1, by omega, k3, k4⟩
    · rw [if_neg e] at h1
      exact ⟨a, wi_inr h1, Nat.le_refl _, by omega, fun _ => e⟩
theorem appG {α : Type} {T : Int × List α → Option ((Int × List α) ⊕ List α)} {n : Nat} {f : Nat → α} (h : ∀ (i : Nat) (s : List α), i < n → s.length = i → T ((i : Int), s) = some (.inl (((i + 1 : Nat) : Int), s ++ [f i])))
    (he : ∀ s : List α, s.length = n → T ((n : Int), s) = some (.inr s)) : whileM T ((0 : Int), []) = some ((List.range n).map f) := by
  obtain ⟨s', h1, h2⟩ := for1 (T := T) (n := n) (fun i s => s = (List.range i).map f) id (fun i s hi hs => ⟨_, h i s hi (by rw [hs]; simp), by rw [hs, List.range_succ]; simp⟩) (fun s hs => he s (by rw [hs]; simp)) [] rfl
  rw [h1]; simp only [id]; rw [h2]
theorem mapG {T : Int × List Int → Option ((Int × List Int) ⊕ List Int)} {xs : List Int} {f : Int → Int} (h : ∀ (i : Nat) (s : List Int), i < xs.length → s.length = xs.length → T ((i : Int), s) = some (.inl (((i + 1 : Nat) : Int), s.set i (f (nth s i)))))
    (he : ∀ s : List Int, s.length = xs.length → T ((xs.length : Int), s) = some (.inr s)) : whileM T ((0 : Int), xs) = some (xs.map f) := by
  obtain ⟨s', h1, h2, h3⟩ := for1 (T := T) (n := xs.length) (fun i s => s.length = xs.length ∧ ∀ j, j < xs.length → nth s j = if j < i then f (nth xs j) else nth xs j) id
    (fun i s hi hs => ⟨_, h i s hi hs.1, by simpa using hs.1, fun j hj => by
      by_cases e : i = j
      · subst e
        rw [nth_set_eq _ _ _ (by omega), if_pos (by omega), hs.2 i hj, if_neg (by omega)]
      · rw [nth_set_ne _ _ _ _ e, hs.2 j hj]
        by_cases hl : j < i
        · rw [if_pos hl, if_pos (by omega)]
        · rw [if_neg hl, if_neg (by omega)]⟩) (fun s hs => he s hs.1) xs ⟨rfl, fun j hj => by rw [if_neg (by omega)]⟩
  rw [h1]
  simp only [id, Option.some.injEq]
  refine ext_nth (by simpa using h2) fun j hj => ?_
  rw [h3 j (by omega), if_pos (by omega), nth_of (xs.map f) _ (by simp; omega), List.getElem_map, nth_of _ _ (by omega)]
/-- What elimination comes to. -/
structure Ov (n m p c : Nat) (pool : List (List Int)) (ix pn : List Nat) : Prop where
  sh : Shape n m p pool ix
  pl : pn.length ≤ n
  pb : ∀ q ∈ pn, q < c
  ps : pn.Pairwise (· < ·)
def ints (pn : List Nat) : List Int := pn.map fun q : Nat => (q : Int)
theorem nthSubG {α : Type} [Inhabited α] {xs : List α} {a b j : Nat} (h : a + j < b) (hb : b ≤ xs.length) : nth (AM.sub xs (a : Int) (b : Int)) j = nth xs (a + j) := by
  unfold nth AM.sub
  simp only [Int.toNat_natCast, List.getD_eq_getElem?_getD, List.getElem?_drop, List.getElem?_take]
  rw [if_pos (by omega)]
theorem rowWI {n m i : Nat} {M : List Int} (hi : i < n) (h1 : 1 ≤ m) (hn : n ≤ 6) (hm : m ≤ 6) (hM : M.length = n * m) :
    impl_Whole_row_g m M (i : Int) = some () ∧ IntKind.i64.wrap ((i : Int) * (m : Int)) = ((i * m : Nat) : Int) ∧ IntKind.i64.wrap ((IntKind.i64.wrap ((i : Int) + 1)) * (m : Int)) = (((i + 1) * m : Nat) : Int) ∧ (AM.sub M ((i * m : Nat) : Int) (((i + 1) * m : Nat) : Int)).length = m := by
  have hb : n * m ≤ maxN := by have := le36 hn hm; unfold maxN; omega
  obtain ⟨k1, k2, k3, k4⟩ := row_wrap (m := m) hi hb
  have hs : sok ((i * m : Nat) : Int) (((i + 1) * m : Nat) : Int) M.length = true := sok_iff.2 ⟨by omega, by omega, by omega⟩
  have hl : (AM.sub M ((i * m : Nat) : Int) (((i + 1) * m : Nat) : Int)).length = m := by rw [sub_length hs]; omega
  have q1 : decide (0 < (AM.sub M ((i * m : Nat) : Int) (((i + 1) * m : Nat) : Int)).length) = true := by rw [hl]; simp; omega
  have q2 : fits (AM.sub M ((i * m : Nat) : Int) (((i + 1) * m : Nat) : Int)).length = true := fits_iff.2 (by rw [hl]; unfold maxN; omega)
  have hc : slices_CloneI_g (AM.sub M ((i * m : Nat) : Int) (((i + 1) * m : Nat) : Int)) = some () := by
    simp only [slices_CloneI_g, slices_CloneI_T, Tree.run, List.nil_append, q1, q2, if_true]
  refine ⟨?_, k1, k2, hl⟩
  simp only [impl_Whole_row_g, impl_Whole_row_T, Tree.run, k1, k2, hs, hc, Option.bind_some, if_true]
/-- A row over p, with a number of a list behind it if there is a list. -/
def rowO (c p : Nat) (xs v : List Int) (i : Nat) : List Int := ((List.range c).map fun k => nth xs (i * c + k) % (p : Int)) ++ (match v with | [] => [] | _ :: _ => [nth v i % (p : Int)])
theorem rowO_len (c p : Nat) (xs v : List Int) (i : Nat) : (rowO c p xs v i).length = c + (match v with | [] => 0 | _ :: _ => 1) := by
  unfold rowO
  cases v <;> simp
theorem rowO_bnd {c p : Nat} (hp : 0 < p) {xs v : List Int} {i j : Nat} (hj : j < (rowO c p xs v i).length) : 0 ≤ nth (rowO c p xs v i) j ∧ nth (rowO c p xs v i) j < p := by
  rw [nth_of _ _ hj]
  have hm := List.getElem_mem hj
  have key : ∀ x ∈ rowO c p xs v i, ∃ y : Int, x = y % (p : Int) := fun x hx => by
    unfold rowO at hx
    rcases List.mem_append.1 hx with h | h
    · obtain ⟨k, _, rfl⟩ := List.mem_map.1 h; exact ⟨_, rfl⟩
    · cases v with
      | nil => cases h
      | cons a l => exact ⟨_, List.mem_singleton.1 h⟩
  obtain ⟨y, hy⟩ := key _ hm
  rw [hy]; exact md_range y hp
def poolO (c p : Nat) (xs v : List Int) (i : Nat) : List (List Int) := (List.range i).map (rowO c p xs v)
def ixO (i : Nat) : List Nat := (List.range i).map (· + 1)
theorem shapeO {n c p : Nat} (hp : 0 < p) (xs v : List Int) : Shape n (c + (match v with | [] => 0 | _ :: _ => 1)) p (poolO c p xs v n) (ixO n) := by
  have hg : ∀ k, 1 ≤ k → k ≤ n → nget (poolO c p xs v n) k = rowO c p xs v (k - 1) := fun k h1 h2 => by
    obtain ⟨q, rfl⟩ : ∃ q, k = q + 1 := ⟨k - 1, by omega⟩
    simp only [nget, poolO, Nat.add_sub_cancel]
    exact nth_map_range _ _ _ (by omega)
  refine ⟨by simp [poolO], by simp [ixO], fun i hi => ?_, fun k h1 h2 => ?_, fun k h1 h2 j hj => ?_⟩
  · unfold ixO; rw [nth_map_range _ _ _ hi]; omega
  · rw [hg k h1 h2, rowO_len]
  · rw [hg k h1 h2]
    exact rowO_bnd hp (by rw [rowO_len]; exact hj)
theorem poolO_succ (c p : Nat) (xs v : List Int) (i : Nat) : poolO c p xs v i ++ [rowO c p xs v i] = poolO c p xs v (i + 1) := by simp [poolO, List.range_succ]
theorem ixO_succ (c p : Nat) (xs v : List Int) (i : Nat) : ixO i ++ [(poolO c p xs v i).length + 1] = ixO (i + 1) := by simp [ixO, poolO, List.range_succ]
theorem ixO_len (i : Nat) : (ixO i).length = i := by simp [ixO]
end Go.Proofs.Ytimlecagkbbnpaa.AM
