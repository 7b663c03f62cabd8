/- L0 F0 I0 M0 M1 WH0 -/
import Derived.Test.YtmgpbchacndndaaX1
import Derived.Test.YtmgpbchacndndaaD17
import Derived.Test.YtmgpbchacndndaaD18
set_option linter.unusedSimpArgs false
set_option linter.unusedVariables false
set_option maxHeartbeats 1000000
namespace Go.Proofs.Ytmgpbchacndndaa.AM

theorem inR (n a b : Int) : impl_inRange_v n a b = (decide (a ≤ n) && decide (n ≤ b)) := by
  unfold impl_inRange_v
  cases decide (a ≤ n) <;> simp
theorem toI_ok (xs : List Int) (h : xs.length ≤ maxN) : laws_toInt64S_g xs = some xs := by
  have hm := h
  unfold maxN at hm
  have hT : ∀ i (s : List Int), i < xs.length → (s = fill 0 xs i) → ((laws_toInt64S_l0_T xs ((i : Int), s)).run = some (.inl (((i + 1 : Nat) : Int), s.set i (nth xs i))) ∧ s.set i (nth xs i) = fill 0 xs (i + 1)) := by
    rintro i s hi rfl
    refine ⟨?_, fill_set 0 xs i hi⟩
    simp [laws_toInt64S_l0_T, Tree.run, hi, w_succ (show i < 4611686018427387904 by omega)]
  have he : ∀ s : List Int, s = fill 0 xs xs.length → (laws_toInt64S_l0_T xs ((xs.length : Int), s)).run = some (.inr s) := by
    rintro s rfl
    simp [laws_toInt64S_l0_T, Tree.run]
  have := whileM_for (T := fun s => (laws_toInt64S_l0_T xs s).run) (fun i s => ((i : Int), s)) (fun i s => s.set i (nth xs i)) (fun i s => s = fill 0 xs i) (s := fill 0 xs 0) rfl hT he
  obtain ⟨h1, h2⟩ := this
  rw [h2, fill_full] at h1
  have hb : inb ((xs.length : Nat) : Int) (maxN + 1) = true := by rw [inb_nat]; simp; omega
  simp only [laws_toInt64S_g, laws_toInt64S_T, Tree.run, if_true, hb, laws_toInt64S_l0_g]
  rw [fill_zero] at h1
  simp only [Int.toNat_natCast]
  show ((whileM (fun s => (laws_toInt64S_l0_T xs s).run) ((0 : Int), List.replicate xs.length 0)).bind fun b => some b) = some xs
  rw [show ((0 : Int), List.replicate xs.length (0 : Int)) = (((0 : Nat) : Int), List.replicate xs.length 0) from rfl, h1]
  rfl
theorem eqI_self (xs : List Int) (h : xs.length ≤ maxN) : laws_eqInt64S_g xs xs = some true := by
  have hm := h
  unfold maxN at hm
  have hT : ∀ i, i < xs.length → (laws_eqInt64S_l0_T xs xs (i : Int)).run = if (false : Bool) = true then some (.inr (.inl ())) else some (.inl ((i + 1 : Nat) : Int)) := by
    intro i hi
    simp [laws_eqInt64S_l0_T, Tree.run, hi, w_succ (show i < 4611686018427387904 by omega)]
  have he : (laws_eqInt64S_l0_T xs xs (xs.length : Int)).run = some (.inr (.inr ())) := by
    simp [laws_eqInt64S_l0_T, Tree.run]
  have := whileM_scan (T := fun s => (laws_eqInt64S_l0_T xs xs s).run) (p := fun _ => false) hT he
  simp only [laws_eqInt64S_g, laws_eqInt64S_T, Tree.run, if_true, laws_eqInt64S_l0_g]
  rw [this]
  simp [Tree.run]
theorem markI_ok (xs : List Int) (k : Int) (h : xs.length ≤ maxN) (h0 : 0 ≤ k) (h1 : k ≤ 1099511627776) : laws_markInt64S_g xs k = some (k + xs.length, marksI k xs.length) := by
  have hm := h
  unfold maxN at hm
  have hT : ∀ i (s : List Int), i < xs.length → s = markedI k xs i → ((laws_markInt64S_l0_T (k + (i : Nat), (i : Int), s)).run = some (.inl (k + ((i + 1 : Nat) : Int), ((i + 1 : Nat) : Int), s.set i (k + i))) ∧ s.set i (k + i) = markedI k xs (i + 1)) := by
    rintro i s hi rfl
    refine ⟨?_, markedI_set k xs i hi⟩
    have hl := markedI_length k xs i (by omega)
    have e : IntKind.i64.wrap (k + (i : Int) + 1) = k + ((i + 1 : Nat) : Int) := by rw [w64 (by omega) (by omega)]; omega
    simp [laws_markInt64S_l0_T, Tree.run, hi, hl, w_succ (show i < 4611686018427387904 by omega), e]
  have he : ∀ s : List Int, s = markedI k xs xs.length → (laws_markInt64S_l0_T (k + (xs.length : Nat), (xs.length : Int), s)).run = some (.inr (k + (xs.length : Nat), s)) := by
    rintro s rfl
    have hl := markedI_length k xs xs.length (by omega)
    simp [laws_markInt64S_l0_T, Tree.run, hl]
  have := whileM_for (T := fun s => (laws_markInt64S_l0_T s).run) (fun i s => (k + (i : Nat), (i : Int), s)) (fun i s => s.set i (k + i)) (fun i s => s = markedI k xs i) (s := xs) (r := fun s => (k + (xs.length : Nat), s)) (markedI_zero k xs).symm hT he
  obtain ⟨g1, g2⟩ := this
  rw [g2, markedI_full] at g1
  simp only [laws_markInt64S_g, laws_markInt64S_T, Tree.run, if_true, laws_markInt64S_l0_g]
  have e0 : (k, (0 : Int), xs) = (k + ((0 : Nat) : Int), ((0 : Nat) : Int), xs) := by simp
  rw [e0, g1]
  rfl
theorem markI_nil (k : Int) : laws_markInt64S_i1_g k = some k := by
  have : whileM (fun s => (laws_markInt64S_i1_l0_T s).run) () = some () := by
    rw [whileM_eq]
    simp [laws_markInt64S_i1_l0_T, Tree.run]
  simp only [laws_markInt64S_i1_g, laws_markInt64S_i1_T, Tree.run, if_true, laws_markInt64S_i1_l0_g, this]
  rfl
theorem heldI_ok (k : Int) (n : Nat) (h : n ≤ maxN) (h0 : 0 ≤ k) (h1 : k ≤ 1099511627776) : laws_heldInt64S_g (marksI k n) k = some (k + n) := by
  have hm := h
  unfold maxN at hm
  have hT : ∀ i (s : Unit), i < n → True → ((laws_heldInt64S_l0_T (marksI k n) (k + (i : Nat), (i : Int))).run = some (.inl (k + ((i + 1 : Nat) : Int), ((i + 1 : Nat) : Int))) ∧ True) := by
    intro i s hi _
    have e : IntKind.i64.wrap (k + (i : Int) + 1) = k + ((i + 1 : Nat) : Int) := by rw [w64 (by omega) (by omega)]; omega
    simp [laws_heldInt64S_l0_T, Tree.run, hi, marksI_nth k n i hi, w_succ (show i < 4611686018427387904 by omega), e]
  have he : ∀ s : Unit, True → (laws_heldInt64S_l0_T (marksI k n) (k + (n : Nat), (n : Int))).run = some (.inr (.inr (k + (n : Nat)))) := by
    intro s _
    simp [laws_heldInt64S_l0_T, Tree.run]
  have := whileM_for (T := fun s => (laws_heldInt64S_l0_T (marksI k n) s).run) (fun i (_ : Unit) => (k + (i : Nat), (i : Int))) (fun _ s => s) (fun _ _ => True) (s := ()) (r := fun _ => .inr (k + (n : Nat))) trivial hT he
  simp only [laws_heldInt64S_g, laws_heldInt64S_T, Tree.run, if_true, laws_heldInt64S_l0_g]
  have e0 : (k, (0 : Int)) = (k + ((0 : Nat) : Int), ((0 : Nat) : Int)) := by simp
  rw [e0, this.1]
  rfl
theorem heldI_nil (k : Int) (h0 : 0 ≤ k) (h1 : k ≤ 1099511627776) : laws_heldInt64S_g [] k = some k := by
  have := heldI_ok k 0 (by unfold maxN; omega) h0 h1
  simpa [marksI] using this

/-- A sum of the first so many. -/
noncomputable def dotN (f : Nat → Nat) : Nat → Nat
  | 0 => 0
  | n + 1 => fadd .f32 (dotN f n) (f n)
/-- The rows' products with a vector. -/
noncomputable def timesL (n m : Nat) (M v : List Nat) : List Nat := (List.range n).map fun r => dotN (fun i => fmul .f32 (nth (AM.sub M ((r * m : Nat) : Int) (((r + 1) * m : Nat) : Int)) i) (nth v i)) m
@[simp] theorem timesL_length (n m : Nat) (M v : List Nat) : (timesL n m M v).length = n := by simp [timesL]
/-- n rows of m each. -/
def rc {α : Type} (n m : Nat) (f : Nat → Nat → α) : List α := (List.range (n * m)).map fun p => f (p / m) (p % m)
@[simp] theorem rc_length {α : Type} (n m : Nat) (f : Nat → Nat → α) : (rc n m f).length = n * m := by simp [rc]
theorem rc_lt {n m i k : Nat} (hi : i < n) (hk : k < m) : i * m + k < n * m := by
  have h := Nat.mul_le_mul_right m (show i + 1 ≤ n from hi)
  rw [Nat.add_mul] at h; omega
theorem rc_div {m i k : Nat} (hk : k < m) : (i * m + k) / m = i := by
  rw [Nat.mul_comm, Nat.mul_add_div (by omega), Nat.div_eq_of_lt hk]; rfl
theorem rc_mod {m i k : Nat} (hk : k < m) : (i * m + k) % m = k := by
  rw [Nat.mul_comm, Nat.mul_add_mod, Nat.mod_eq_of_lt hk]
theorem rc_nth {α : Type} [Inhabited α] {n m : Nat} (f : Nat → Nat → α) {i k : Nat} (hi : i < n) (hk : k < m) : nth (rc n m f) (i * m + k) = f i k := by
  rw [rc, nth_map_range _ _ _ (rc_lt hi hk)]
  simp only [rc_div hk, rc_mod hk]
theorem rc_of {n m p : Nat} (hp : p < n * m) : p / m < n ∧ p % m < m ∧ p / m * m + p % m = p := by
  have hm : 0 < m := by
    rcases Nat.eq_zero_or_pos m with h | h
    · subst h; simp at hp
    · exact h
  exact ⟨(Nat.div_lt_iff_lt_mul hm).2 hp, Nat.mod_lt _ hm, by rw [Nat.mul_comm]; exact Nat.div_add_mod p m⟩
theorem rc_ext {α : Type} [Inhabited α] {n m : Nat} {f : Nat → Nat → α} {xs : List α} (hl : xs.length = n * m) (h : ∀ i k, i < n → k < m → nth xs (i * m + k) = f i k) : xs = rc n m f := by
  refine ext_nth (by rw [hl, rc_length]) fun p hp => ?_
  rw [hl] at hp
  obtain ⟨h1, h2, h3⟩ := rc_of hp
  rw [← h3, h _ _ h1 h2, rc_nth f h1 h2]
theorem le144 {n m : Nat} (hn : n ≤ 12) (hm : m ≤ 12) : n * m ≤ 144 := Nat.mul_le_mul hn hm
theorem mulw {n m : Nat} (hn : n ≤ 12) (hm : m ≤ 12) : IntKind.i64.wrap ((n : Int) * (m : Int)) = ((n * m : Nat) : Int) := by
  have h := le144 hn hm
  have : ((n : Int) * m) = ((n * m : Nat) : Int) := by simp
  rw [this, w64 (by omega) (by omega)]
theorem atw {n m i k : Nat} (hi : i < n) (hk : k < m) (hn : n ≤ 12) (hm : m ≤ 12) : IntKind.i64.wrap ((IntKind.i64.wrap ((i : Int) * (m : Int))) + (k : Int)) = ((i * m + k : Nat) : Int) := by
  have h := le144 hn hm
  have h2 := rc_lt hi hk
  rw [mulw (by omega) hm, w64 (by omega) (by omega)]; omega
theorem w1 {k : Nat} (h : k ≤ 1000) : IntKind.i64.wrap ((k : Int) + 1) = ((k + 1 : Nat) : Int) := w_succ (by omega)
theorem fitsN {n : Nat} (h : n ≤ 1000) : fits n = true := fits_iff.2 (by unfold maxN; omega)
/-- A list made by appending. -/
theorem app_gen {T : Int × List Nat → Option ((Int × List Nat) ⊕ List Nat)} {n : Nat} {f : Nat → Nat} (h : ∀ (i : Nat) (s : List Nat), i < n → s.length = i → T ((i : Int), s) = some (.inl (((i + 1 : Nat) : Int), s ++ [f i])))
    (he : ∀ s : List Nat, T ((n : Int), s) = some (.inr s)) : whileM T ((0 : Int), []) = some ((List.range n).map f) := by
  refine whileM_fix (T := T) (n := n) (r := (List.range n).map f) (fun i => ((i : Int), (List.range i).map f)) ?_ (he _)
  intro i hi
  rw [h i _ hi (by simp), List.range_succ, List.map_append]; rfl
/-- A column. -/
def colL (n m : Nat) (M : List Nat) (k : Nat) : List Nat := (List.range n).map fun i => nth M (i * m + k)
@[simp] theorem colL_length (n m : Nat) (M : List Nat) (k : Nat) : (colL n m M k).length = n := by simp [colL]
/-- The product. -/
noncomputable def mulL (n m q : Nat) (A B : List Nat) : List Nat := rc n q fun i k => dotN (fun j => fmul .f32 (nth A (i * m + j)) (nth B (j * q + k))) m
@[simp] theorem mulL_length (n m q : Nat) (A B : List Nat) : (mulL n m q A B).length = n * q := by simp [mulL]
theorem wi_inl {σ ρ : Type} {T : σ → Option (σ ⊕ ρ)} {s s' : σ} {r : Option ρ} (h : T s = some (.inl s')) (h' : whileM T s' = r) : whileM T s = r := by rw [whileM_eq, h]; exact h'
theorem wi_inr {σ ρ : Type} {T : σ → Option (σ ⊕ ρ)} {s : σ} {r : ρ} (h : T s = some (.inr r)) : whileM T s = some r := by rw [whileM_eq, h]
theorem toW_ok (r c : Int) (xs : List Int) (h : xs.length ≤ maxN) : laws_toWhole_g r c xs = some (r, c, xs) := by
  simp only [laws_toWhole_g, laws_toWhole_T, Tree.run, toI_ok xs h, Option.bind_some]
theorem eqW_self (r c : Int) (xs : List Int) (h : xs.length ≤ maxN) : laws_eqWhole_g r c xs r c xs = some true := by
  simp [laws_eqWhole_g, laws_eqWhole_T, Tree.run, eqI_self xs h]
theorem markW_ok (xs : List Int) (k : Int) (h : xs.length ≤ maxN) (h0 : 0 ≤ k) (h1 : k ≤ 1099511627776) : laws_markWhole_g xs k = some (k + xs.length, marksI k xs.length) := by
  simp [laws_markWhole_g, laws_markWhole_T, Tree.run, markI_ok xs k h h0 h1]
theorem markW_nil (k : Int) : laws_markWhole_i1_g k = some k := by
  simp [laws_markWhole_i1_g, laws_markWhole_i1_T, Tree.run, markI_nil]
theorem heldW_ok (k : Int) (n : Nat) (h : n ≤ maxN) (h0 : 0 ≤ k) (h1 : k ≤ 1099511627776) : laws_heldWhole_g (marksI k n) k = some (k + n) := by
  have : decide (k + (n : Int) < 0) = false := by simp; omega
  simp [laws_heldWhole_g, laws_heldWhole_T, Tree.run, heldI_ok k n h h0 h1, this]
  omega
theorem heldW_nil (k : Int) (h0 : 0 ≤ k) (h1 : k ≤ 1099511627776) : laws_heldWhole_g [] k = some k := by
  simp [laws_heldWhole_g, laws_heldWhole_T, Tree.run, heldI_nil k h0 h1]
  omega
theorem szW_len (a : Nat) (l : Int) (ha : a < 9223372036854775808) (h0 : 0 ≤ l) (h1 : l ≤ 1048576) (big : maxN < a) : decide (laws_szWhole_len_v a l < 0) = true := by
  unfold maxN at big
  have e : IntKind.i64.wrap (l - (a : Int)) = l - a := w64 (by omega) (by omega)
  have d : decide (l - (a : Int) < 0) = true := decide_eq_true (by omega)
  simp only [laws_szWhole_len_v, laws_szInt64S_len_v, e, d, if_true]
  rfl
/-- Do all lie between -m and m? -/
def bndB (m : Int) (xs : List Int) : Bool := xs.all fun x => decide (-m ≤ x) && decide (x ≤ m)
theorem bnd_iff {m : Int} {xs : List Int} : bndB m xs = true ↔ ∀ k, k < xs.length → -m ≤ nth xs k ∧ nth xs k ≤ m := by
  unfold bndB
  rw [List.all_eq_true]
  constructor
  · intro h k hk
    have := h _ (List.getElem_mem hk)
    rw [nth_of _ _ hk]
    simpa using this
  · intro h x hx
    obtain ⟨k, hk, rfl⟩ := List.getElem_of_mem hx
    have := h k hk
    rw [nth_of _ _ hk] at this
    simpa using this
theorem allInB (xs : List Int) (a b : Int) (h : xs.length ≤ maxN) : impl_allIn_g xs a b = some (xs.all fun x => decide (a ≤ x) && decide (x ≤ b)) := by
  unfold maxN at h
  have hT : ∀ i, i < xs.length → (slices_IndexFuncI_l0_T xs a b (i : Int)).run = if (!(decide (a ≤ nth xs i) && decide (nth xs i ≤ b))) = true then some (.inr (.inl (i : Int))) else some (.inl ((i + 1 : Nat) : Int)) := by
    intro i hi
    simp only [slices_IndexFuncI_l0_T, Tree.run, lt_nat, inb_nat, hi, decide_true, if_true, impl_allIn_1_v, inR, Int.toNat_natCast, w_succ (show i < 4611686018427387904 by omega)]
  have he : (slices_IndexFuncI_l0_T xs a b (xs.length : Int)).run = some (.inr (.inr ())) := by
    simp [slices_IndexFuncI_l0_T, Tree.run]
  have := whileM_find (T := fun s => (slices_IndexFuncI_l0_T xs a b s).run) (p := fun i => !(decide (a ≤ nth xs i) && decide (nth xs i ≤ b))) (a := fun i => .inl (i : Int)) hT he
  have ha := find_any xs.length (fun i => !(decide (a ≤ nth xs i) && decide (nth xs i ≤ b)))
  rw [any_range (fun x => !(decide (a ≤ x) && decide (x ≤ b))), any_not] at ha
  simp only [impl_allIn_g, impl_allIn_T, slices_ContainsFuncI_g, slices_ContainsFuncI_T, slices_IndexFuncI_g, slices_IndexFuncI_T, Tree.run, if_true, slices_IndexFuncI_l0_g, this]
  cases hf : (List.range xs.length).find? (fun i => !(decide (a ≤ nth xs i) && decide (nth xs i ≤ b))) with
  | none =>
    rw [hf] at ha
    have : (xs.all fun x => decide (a ≤ x) && decide (x ≤ b)) = true := by simpa using ha.symm
    rw [this]; simp [Tree.run]
  | some i =>
    rw [hf] at ha
    have : (xs.all fun x => decide (a ≤ x) && decide (x ≤ b)) = false := by
      cases hq : (xs.all fun x => decide (a ≤ x) && decide (x ≤ b)) with
      | false => rfl
      | true => rw [hq] at ha; simp at ha
    rw [this]; simp [Tree.run]
theorem in00 (x a b : Int) : spec_l00In_v x a b = (decide (a ≤ x) && decide (x ≤ b)) := by
  unfold spec_l00In_v
  cases decide (a ≤ x) <;> simp
theorem boundS (xs : List Int) (m : Int) (h : xs.length ≤ maxN) (m0 : 0 ≤ m) (m1 : m ≤ 4611686018427387904) : spec_l06Bound_g xs m = some (bndB m xs) := by
  unfold maxN at h
  have em : IntKind.i64.wrap (0 - m) = -m := by rw [w64 (by omega) (by omega)]; omega
  have hT : ∀ i, i < xs.length → (spec_l06Bound_l0_T xs m (i : Int)).run = if (!(decide (-m ≤ nth xs i) && decide (nth xs i ≤ m))) = true then some (.inr (.inl ())) else some (.inl ((i + 1 : Nat) : Int)) := by
    intro i hi
    simp only [spec_l06Bound_l0_T, Tree.run, lt_nat, inb_nat, hi, decide_true, if_true, in00, em, Int.toNat_natCast, w_succ (show i < 4611686018427387904 by omega)]
  have he : (spec_l06Bound_l0_T xs m (xs.length : Int)).run = some (.inr (.inr ())) := by
    simp [spec_l06Bound_l0_T, Tree.run]
  have := whileM_scan (T := fun s => (spec_l06Bound_l0_T xs m s).run) (p := fun i => !(decide (-m ≤ nth xs i) && decide (nth xs i ≤ m))) hT he
  rw [any_range (fun x => !(decide (-m ≤ x) && decide (x ≤ m))), any_not] at this
  simp only [spec_l06Bound_g, spec_l06Bound_T, Tree.run, if_true, spec_l06Bound_l0_g, this, bndB]
  cases (xs.all fun x => decide (-m ≤ x) && decide (x ≤ m)) <;> simp [Tree.run]
/-- Valid whole numbers in rows, of at most m. -/
def whB (m : Int) (r c : Int) (xs : List Int) : Bool := decide (1 ≤ r) && decide (r ≤ 6) && (decide (1 ≤ c) && decide (c ≤ 6)) && decide ((xs.length : Int) = IntKind.i64.wrap (r * c)) && bndB m xs
theorem wh_shape {m r c : Int} {xs : List Int} (h : whB m r c xs = true) : ∃ n k : Nat, r = (n : Int) ∧ c = (k : Int) ∧ 1 ≤ n ∧ n ≤ 6 ∧ 1 ≤ k ∧ k ≤ 6 ∧ xs.length = n * k ∧ bndB m xs = true := by
  simp only [whB, Bool.and_eq_true, decide_eq_true_eq] at h
  obtain ⟨⟨⟨⟨h1, h2⟩, h3, h4⟩, h5⟩, h6⟩ := h
  refine ⟨r.toNat, c.toNat, by omega, by omega, by omega, by omega, by omega, by omega, ?_, h6⟩
  have e1 : r = (r.toNat : Int) := by omega
  have e2 : c = (c.toNat : Int) := by omega
  rw [e1, e2, mulw (by omega) (by omega)] at h5
  exact Int.ofNat.inj h5
theorem wh_nat {m : Int} {n k : Nat} {xs : List Int} (h1 : 1 ≤ n) (h2 : n ≤ 6) (h3 : 1 ≤ k) (h4 : k ≤ 6) (h5 : xs.length = n * k) : whB m n k xs = bndB m xs := by
  have c1 : decide ((1 : Int) ≤ (n : Int)) = true := by simp; omega
  have c2 : decide ((n : Int) ≤ 6) = true := by simp; omega
  have c3 : decide ((1 : Int) ≤ (k : Int)) = true := by simp; omega
  have c4 : decide ((k : Int) ≤ 6) = true := by simp; omega
  have c5 : decide ((xs.length : Int) = ((n * k : Nat) : Int)) = true := by rw [h5]; simp
  simp only [whB, c1, c2, c3, c4, mulw (show n ≤ 12 by omega) (show k ≤ 12 by omega), c5, Bool.true_and]
theorem whS (m r c : Int) (xs : List Int) (hx : xs.length ≤ maxN) (m0 : 0 ≤ m) (m1 : m ≤ 4611686018427387904) : spec_l06Is_g r c xs m = some (whB m r c xs) := by
  simp only [spec_l06Is_g, spec_l06Is_T, Tree.run, in00, boundS xs m hx m0 m1, Option.bind_some, whB]
  generalize bndB m xs = z
  by_cases a1 : (1 : Int) ≤ r <;> by_cases a2 : r ≤ (6 : Int) <;> by_cases a3 : (1 : Int) ≤ c <;> by_cases a4 : c ≤ (6 : Int) <;> by_cases a5 : (xs.length : Int) = IntKind.i64.wrap (r * c) <;> simp [a1, a2, a3, a4, a5]
theorem whI (m r c : Int) (xs : List Int) (hx : xs.length ≤ maxN) (m0 : 0 ≤ m) (m1 : m ≤ 4611686018427387904) : impl_isWhole_g r c xs m = some (whB m r c xs) := by
  have em : IntKind.i64.wrap (0 - m) = -m := by rw [w64 (by omega) (by omega)]; omega
  have e5 : decide (impl_lengthI_v xs = IntKind.i64.wrap (r * c)) = decide ((xs.length : Int) = IntKind.i64.wrap (r * c)) := rfl
  simp only [impl_isWhole_g, impl_isWhole_T, Tree.run, inR, em, allInB xs _ _ hx, e5, Option.bind_some, whB]
  show _ = some (decide (1 ≤ r) && decide (r ≤ 6) && (decide (1 ≤ c) && decide (c ≤ 6)) && decide ((xs.length : Int) = IntKind.i64.wrap (r * c)) && (xs.all fun x => decide (-m ≤ x) && decide (x ≤ m)))
  generalize (xs.all fun x => decide (-m ≤ x) && decide (x ≤ m)) = z
  by_cases a1 : (1 : Int) ≤ r <;> by_cases a2 : r ≤ (6 : Int) <;> by_cases a3 : (1 : Int) ≤ c <;> by_cases a4 : c ≤ (6 : Int) <;> by_cases a5 : (xs.length : Int) = IntKind.i64.wrap (r * c) <;> simp [a1, a2, a3, a4, a5]
theorem vwI (r c : Int) (xs : List Int) (hx : xs.length ≤ maxN) : impl_ValidWhole_g r c xs = some (whB 1000000 r c xs) := by
  simp only [impl_ValidWhole_g, impl_ValidWhole_T, Tree.run, whI 1000000 r c xs hx (by omega) (by omega), Option.bind_some]
theorem atWS {n m i k : Nat} {M : List Int} (hi : i < n) (hk : k < m) (hn : n ≤ 6) (hm : m ≤ 6) (hM : M.length = n * m) : spec_l06At_g m M (i : Int) (k : Int) = some (nth M (i * m + k)) := by
  have h1 : i * m + k < M.length := by rw [hM]; exact rc_lt hi hk
  simp only [spec_l06At_g, spec_l06At_T, Tree.run, atw hi hk (show n ≤ 12 by omega) (show m ≤ 12 by omega), inb_nat, h1, decide_true, if_true, Int.toNat_natCast]
theorem atWI {n m i k : Nat} {M : List Int} (hi : i < n) (hk : k < m) (hn : n ≤ 6) (hm : m ≤ 6) (hM : M.length = n * m) : impl_Whole_at_g m M (i : Int) (k : Int) = some (nth M (i * m + k)) := by
  have h1 : i * m + k < M.length := by rw [hM]; exact rc_lt hi hk
  simp only [impl_Whole_at_g, impl_Whole_at_T, Tree.run, atw hi hk (show n ≤ 12 by omega) (show m ≤ 12 by omega), inb_nat, h1, decide_true, if_true, Int.toNat_natCast]
theorem setG {α : Type} [Inhabited α] {xs : List α} {p j : Nat} {v : α} (h : p < xs.length) : nth (xs.set p v) j = if p = j then v else nth xs j := by
  split
  · rename_i e; subst e; exact nth_set_eq _ _ _ h
  · rename_i e; exact nth_set_ne _ _ _ _ e
theorem rcinj {m i k j l : Nat} (hk : k < m) (hl : l < m) (h : i * m + k = j * m + l) : i = j ∧ k = l := by
  have h1 := rc_div (i := i) hk
  have h2 := rc_div (i := j) hl
  have h3 := rc_mod (i := i) hk
  have h4 := rc_mod (i := j) hl
  rw [h] at h1 h3
  omega
theorem le36 {n m : Nat} (hn : n ≤ 6) (hm : m ≤ 6) : n * m ≤ 36 := Nat.mul_le_mul hn hm

/-! rows that change places -/
def sw (i j a : Nat) : Nat := if a = i then j else if a = j then i else a
theorem sw_lt {i j a n : Nat} (hi : i < n) (hj : j < n) (ha : a < n) : sw i j a < n := by
  unfold sw; split; exact hj; split; exact hi; exact ha
def swapL (n m : Nat) (H : List Int) (i j : Nat) : List Int := rc n m fun a b => nth H (sw i j a * m + b)
@[simp] theorem swapL_length (n m : Nat) (H : List Int) (i j : Nat) : (swapL n m H i j).length = n * m := by simp [swapL]
theorem swapL_nth {n m : Nat} {H : List Int} {i j a b : Nat} (ha : a < n) (hb : b < m) : nth (swapL n m H i j) (a * m + b) = nth H (sw i j a * m + b) := rc_nth _ ha hb
/-- What a loop that changes two rows does. -/
theorem swap_gen {T : Int × List Int → Option ((Int × List Int) ⊕ List Int)} {n m i j : Nat} {H : List Int} (hi : i < n) (hj : j < n) (hH : H.length = n * m)
    (h : ∀ (k : Nat) (s : List Int), k < m → s.length = n * m → T ((k : Int), s) = some (.inl (((k + 1 : Nat) : Int), (s.set (i * m + k) (nth s (j * m + k))).set (j * m + k) (nth s (i * m + k)))))
    (he : ∀ s : List Int, T ((m : Int), s) = some (.inr s)) : whileM T ((0 : Int), H) = some (swapL n m H i j) := by
  have key : ∀ (d k : Nat) (s : List Int), k + d = m → s.length = n * m → ∃ s', whileM T ((k : Int), s) = some s' ∧ s'.length = n * m ∧ ∀ a b, a < n → b < m → nth s' (a * m + b) = if k ≤ b then nth s (sw i j a * m + b) else nth s (a * m + b) := by
    intro d
    induction d with
    | zero =>
      intro k s hk hs
      have : k = m := by omega
      subst this
      exact ⟨s, wi_inr (he s), hs, fun a b _ hb => by rw [if_neg (by omega)]⟩
    | succ d ih =>
      intro k s hk hs
      have hkm : k < m := by omega
      have p1 : i * m + k < s.length := by rw [hs]; exact rc_lt hi hkm
      have p2 : j * m + k < s.length := by rw [hs]; exact rc_lt hj hkm
      obtain ⟨s', g1, g2, g3⟩ := ih (k + 1) ((s.set (i * m + k) (nth s (j * m + k))).set (j * m + k) (nth s (i * m + k))) (by omega) (by simp [hs])
      refine ⟨s', wi_inl (h k s hkm hs) g1, g2, fun a b ha hb => ?_⟩
      have look : ∀ c, c < n → nth ((s.set (i * m + k) (nth s (j * m + k))).set (j * m + k) (nth s (i * m + k))) (c * m + b) = if b = k then nth s (sw i j c * m + b) else nth s (c * m + b) := fun c hc => by
        rw [setG (by simpa using p2), setG p1]
        by_cases hbk : b = k
        · subst hbk
          rw [if_pos rfl]
          unfold sw
          by_cases e1 : c = j
          · subst e1
            rw [if_pos rfl]
            by_cases e2 : c = i
            · subst e2; rw [if_pos rfl]
            · rw [if_neg e2, if_pos rfl]
          · have n1 : ¬ (j * m + b = c * m + b) := fun h => e1 (rcinj hb hb h).1.symm
            rw [if_neg n1]
            by_cases e2 : c = i
            · subst e2; rw [if_pos rfl, if_pos rfl]
            · have n2 : ¬ (i * m + b = c * m + b) := fun h => e2 (rcinj hb hb h).1.symm
              rw [if_neg n2, if_neg e2, if_neg e1]
        · rw [if_neg hbk]
          have n1 : ¬ (j * m + k = c * m + b) := fun h => hbk (rcinj hkm hb h).2.symm
          have n2 : ¬ (i * m + k = c * m + b) := fun h => hbk (rcinj hkm hb h).2.symm
          rw [if_neg n1, if_neg n2]
      rw [g3 a b ha hb]
      by_cases hc : k + 1 ≤ b
      · rw [if_pos hc, if_pos (by omega)]
        have hr : sw i j a < n := sw_lt hi hj ha
        rw [look _ hr, if_neg (by omega)]
      · rw [if_neg hc, look a ha]
        by_cases hbk : b = k
        · rw [if_pos hbk, if_pos (by omega)]
        · rw [if_neg hbk, if_neg (by omega)]
  obtain ⟨s', g1, g2, g3⟩ := key m 0 H (by omega) hH
  have : s' = swapL n m H i j := rc_ext g2 fun a b ha hb => by rw [g3 a b ha hb, if_pos (Nat.zero_le _)]
  rw [this] at g1
  exact g1
/-! a row taken away from another -/
def takeL (n m : Nat) (H : List Int) (i j : Nat) (q : Int) : List Int := rc n m fun a b => if a = i then IntKind.i64.wrap (nth H (i * m + b) - IntKind.i64.wrap (q * nth H (j * m + b))) else nth H (a * m + b)
@[simp] theorem takeL_length (n m : Nat) (H : List Int) (i j : Nat) (q : Int) : (takeL n m H i j q).length = n * m := by simp [takeL]
theorem takeL_nth {n m : Nat} {H : List Int} {i j a b : Nat} {q : Int} (ha : a < n) (hb : b < m) : nth (takeL n m H i j q) (a * m + b) = if a = i then IntKind.i64.wrap (nth H (i * m + b) - IntKind.i64.wrap (q * nth H (j * m + b))) else nth H (a * m + b) := rc_nth _ ha hb
theorem take_gen {T : Int × List Int → Option ((Int × List Int) ⊕ List Int)} {n m i j : Nat} {q : Int} {H : List Int} (hi : i < n) (hj : j < n) (hH : H.length = n * m)
    (h : ∀ (k : Nat) (s : List Int), k < m → s.length = n * m → T ((k : Int), s) = some (.inl (((k + 1 : Nat) : Int), s.set (i * m + k) (IntKind.i64.wrap (nth s (i * m + k) - IntKind.i64.wrap (q * nth s (j * m + k)))))))
    (he : ∀ s : List Int, T ((m : Int), s) = some (.inr s)) : whileM T ((0 : Int), H) = some (takeL n m H i j q) := by
  have key : ∀ (d k : Nat) (s : List Int), k + d = m → s.length = n * m → ∃ s', whileM T ((k : Int), s) = some s' ∧ s'.length = n * m ∧ ∀ a b, a < n → b < m → nth s' (a * m + b) = if k ≤ b ∧ a = i then IntKind.i64.wrap (nth s (i * m + b) - IntKind.i64.wrap (q * nth s (j * m + b))) else nth s (a * m + b) := by
    intro d
    induction d with
    | zero =>
      intro k s hk hs
      have : k = m := by omega
      subst this
      exact ⟨s, wi_inr (he s), hs, fun a b _ hb => by rw [if_neg (by omega)]⟩
    | succ d ih =>
      intro k s hk hs
      have hkm : k < m := by omega
      have p1 : i * m + k < s.length := by rw [hs]; exact rc_lt hi hkm
      obtain ⟨s', g1, g2, g3⟩ := ih (k + 1) (s.set (i * m + k) (IntKind.i64.wrap (nth s (i * m + k) - IntKind.i64.wrap (q * nth s (j * m + k))))) (by omega) (by simp [hs])
      refine ⟨s', wi_inl (h k s hkm hs) g1, g2, fun a b ha hb => ?_⟩
      have look : ∀ c, nth (s.set (i * m + k) (IntKind.i64.wrap (nth s (i * m + k) - IntKind.i64.wrap (q * nth s (j * m + k))))) (c * m + b) = if b = k ∧ c = i then IntKind.i64.wrap (nth s (i * m + k) - IntKind.i64.wrap (q * nth s (j * m + k))) else nth s (c * m + b) := fun c => by
        rw [setG p1]
        by_cases e : b = k ∧ c = i
        · rw [if_pos e, if_pos (by rw [e.1, e.2])]
        · rw [if_neg e, if_neg (fun h => e ⟨(rcinj hkm hb h).2.symm, (rcinj hkm hb h).1.symm⟩)]
      rw [g3 a b ha hb]
      by_cases hc : k + 1 ≤ b ∧ a = i
      · rw [if_pos hc, if_pos (by omega), look i, look j, if_neg (by omega), if_neg (by omega)]
      · rw [if_neg hc, look a]
        by_cases e : b = k ∧ a = i
        · rw [if_pos e, if_pos (by omega), e.1]
        · rw [if_neg e, if_neg (by omega)]
  obtain ⟨s', g1, g2, g3⟩ := key m 0 H (by omega) hH
  have : s' = takeL n m H i j q := rc_ext g2 fun a b ha hb => by
    rw [g3 a b ha hb]
    by_cases e : a = i
    · rw [if_pos ⟨Nat.zero_le _, e⟩, if_pos e]
    · rw [if_neg (by omega), if_neg e]
  rw [this] at g1
  exact g1
theorem swapI {n m i j : Nat} {H : List Int} (hi : i < n) (hj : j < n) (hn : n ≤ 6) (hm : m ≤ 6) (hH : H.length = n * m) : impl_Whole_swapRows_g n m H (i : Int) (j : Int) = some (swapL n m H i j) := by
  have : impl_Whole_swapRows_l0_g m (i : Int) (j : Int) ((0 : Int), H) = some (swapL n m H i j) := by
    refine swap_gen (T := fun s => (impl_Whole_swapRows_l0_T m (i : Int) (j : Int) s).run) hi hj hH ?_ ?_
    · intro k s hk hs
      have p1 : i * m + k < s.length := by rw [hs]; exact rc_lt hi hk
      have p2 : j * m + k < s.length := by rw [hs]; exact rc_lt hj hk
      simp only [impl_Whole_swapRows_l0_T, Tree.run, lt_nat, hk, decide_true, if_true, atw hi hk (show n ≤ 12 by omega) (show m ≤ 12 by omega), atw hj hk (show n ≤ 12 by omega) (show m ≤ 12 by omega), inb_nat, p1, p2, Int.toNat_natCast, w1 (show k ≤ 1000 by omega)]
    · intro s; simp [impl_Whole_swapRows_l0_T, Tree.run]
  simp only [impl_Whole_swapRows_g, impl_Whole_swapRows_T, Tree.run, this, Option.bind_some, if_true]
theorem swapS {n m i j : Nat} {H : List Int} (hi : i < n) (hj : j < n) (hn : n ≤ 6) (hm : m ≤ 6) (hH : H.length = n * m) : spec_l06Swap_g n m H (i : Int) (j : Int) = some ((n : Int), (m : Int), swapL n m H i j) := by
  have : spec_l06Swap_l0_g m (i : Int) (j : Int) ((0 : Int), H) = some (swapL n m H i j) := by
    refine swap_gen (T := fun s => (spec_l06Swap_l0_T m (i : Int) (j : Int) s).run) hi hj hH ?_ ?_
    · intro k s hk hs
      have p1 : i * m + k < s.length := by rw [hs]; exact rc_lt hi hk
      have p2 : j * m + k < s.length := by rw [hs]; exact rc_lt hj hk
      simp only [spec_l06Swap_l0_T, Tree.run, lt_nat, hk, decide_true, if_true, atWS hi hk hn hm hs, atWS hj hk hn hm hs, Option.bind_some, atw hi hk (show n ≤ 12 by omega) (show m ≤ 12 by omega), atw hj hk (show n ≤ 12 by omega) (show m ≤ 12 by omega), inb_nat, p1, p2, Int.toNat_natCast, w1 (show k ≤ 1000 by omega)]
    · intro s; simp [spec_l06Swap_l0_T, Tree.run]
  simp only [spec_l06Swap_g, spec_l06Swap_T, Tree.run, this, Option.bind_some, if_true]
theorem takeI {n m i j : Nat} {q : Int} {H : List Int} (hi : i < n) (hj : j < n) (hn : n ≤ 6) (hm : m ≤ 6) (hH : H.length = n * m) : impl_Whole_takeRow_g n m H (i : Int) (j : Int) q = some (takeL n m H i j q) := by
  have : impl_Whole_takeRow_l0_g m (i : Int) (j : Int) q ((0 : Int), H) = some (takeL n m H i j q) := by
    refine take_gen (T := fun s => (impl_Whole_takeRow_l0_T m (i : Int) (j : Int) q s).run) hi hj hH ?_ ?_
    · intro k s hk hs
      have p1 : i * m + k < s.length := by rw [hs]; exact rc_lt hi hk
      simp only [impl_Whole_takeRow_l0_T, Tree.run, lt_nat, hk, decide_true, if_true, atWI hj hk hn hm hs, Option.bind_some, atw hi hk (show n ≤ 12 by omega) (show m ≤ 12 by omega), inb_nat, p1, Int.toNat_natCast, w1 (show k ≤ 1000 by omega)]
    · intro s; simp [impl_Whole_takeRow_l0_T, Tree.run]
  simp only [impl_Whole_takeRow_g, impl_Whole_takeRow_T, Tree.run, this, Option.bind_some, if_true]
theorem takeS {n m i j : Nat} {q : Int} {H : List Int} (hi : i < n) (hj : j < n) (hn : n ≤ 6) (hm : m ≤ 6) (hH : H.length = n * m) : spec_l06Take_g n m H (i : Int) (j : Int) q = some ((n : Int), (m : Int), takeL n m H i j q) := by
  have : spec_l06Take_l0_g m (i : Int) (j : Int) q ((0 : Int), H) = some (takeL n m H i j q) := by
    refine take_gen (T := fun s => (spec_l06Take_l0_T m (i : Int) (j : Int) q s).run) hi hj hH ?_ ?_
    · intro k s hk hs
      have p1 : i * m + k < s.length := by rw [hs]; exact rc_lt hi hk
      simp only [spec_l06Take_l0_T, Tree.run, lt_nat, hk, decide_true, if_true, atWS hj hk hn hm hs, Option.bind_some, atw hi hk (show n ≤ 12 by omega) (show m ≤ 12 by omega), inb_nat, p1, Int.toNat_natCast, w1 (show k ≤ 1000 by omega)]
    · intro s; simp [spec_l06Take_l0_T, Tree.run]
  simp only [spec_l06Take_g, spec_l06Take_T, Tree.run, this, Option.bind_some, if_true]
end Go.Proofs.Ytmgpbchacndndaa.AM
