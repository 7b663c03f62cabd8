/- Echelons of whole numbers. -/
import Derived.Test.YtbjnjaclmcpbbaaWH0
set_option linter.unusedSimpArgs false
set_option linter.unusedVariables false
set_option maxHeartbeats 1000000
namespace Go.Proofs.Ytbjnjaclmcpbbaa.AM

/-- A quotient, rounded down, as the code tells it. -/
def fdW (a b : Int) : Int :=
  if (!decide (Int.tmod a b = 0)) = true then (if (!((decide (a < 0)) == (decide (b < 0)))) = true then IntKind.i64.wrap (IntKind.i64.wrap (Int.tdiv a b) - 1) else IntKind.i64.wrap (Int.tdiv a b)) else IntKind.i64.wrap (Int.tdiv a b)
theorem floorI {a b : Int} (h : b ≠ 0) : impl_floorDiv_g a b = some (fdW a b) := by
  simp only [impl_floorDiv_g, impl_floorDiv_T, Tree.run, decide_eq_false h, Bool.not_false, if_true, fdW]
  split
  · split <;> rfl
  · rfl
theorem floorS {a b : Int} (h : b ≠ 0) : spec_l06Down_g a b = some (fdW a b) := by
  simp only [spec_l06Down_g, spec_l06Down_T, Tree.run, decide_eq_false h, Bool.not_false, if_true, fdW]
  split
  · split <;> rfl
  · rfl
theorem fdW_rem {a b : Int} (ha : -1000000 ≤ a ∧ a ≤ 1000000) (hb : -1000000 ≤ b ∧ b ≤ 1000000) (h0 : b ≠ 0) : (IntKind.i64.wrap (a - IntKind.i64.wrap (fdW a b * b))).natAbs < b.natAbs := by
  have fdu : fdW a b = (if (!decide (Int.tmod a b = 0)) = true then (if (!((decide (a < 0)) == (decide (b < 0)))) = true then IntKind.i64.wrap (IntKind.i64.wrap (Int.tdiv a b) - 1) else IntKind.i64.wrap (Int.tdiv a b)) else IntKind.i64.wrap (Int.tdiv a b)) := rfl
  have e1 : b * a.tdiv b + a.tmod b = a := Int.mul_tdiv_add_tmod a b
  have e2 : (a.tmod b).natAbs = a.natAbs % b.natAbs := Int.natAbs_tmod a b
  have e3 : a.natAbs % b.natAbs < b.natAbs := Nat.mod_lt _ (by omega)
  have e4 : (a.tdiv b).natAbs = a.natAbs / b.natAbs := Int.natAbs_tdiv a b
  have e5 : a.natAbs / b.natAbs ≤ a.natAbs := Nat.div_le_self _ _
  have s1 : 0 ≤ a → 0 ≤ a.tmod b := fun h => Int.tmod_nonneg b h
  have s2 : a ≤ 0 → a.tmod b ≤ 0 := fun h => by
    have := Int.tmod_nonneg (a := -a) b (by omega)
    rw [Int.neg_tmod] at this
    omega
  have e6 : a.tdiv b * b = a - a.tmod b := by rw [Int.mul_comm]; omega
  generalize a.tdiv b = t at *
  generalize a.tmod b = s at *
  have wt : IntKind.i64.wrap t = t := w64 (by omega) (by omega)
  have wt1 : IntKind.i64.wrap (t - 1) = t - 1 := w64 (by omega) (by omega)
  have e7 : (t - 1) * b = a - s - b := by rw [Int.sub_mul, e6]; omega
  have fd : fdW a b * b = a - s ∨ (fdW a b * b = a - s - b ∧ s ≠ 0 ∧ ((a < 0 ∧ 0 < b) ∨ (0 ≤ a ∧ b < 0))) := by
    rw [fdu, wt, wt1]
    by_cases hs : s = 0
    · left
      rw [decide_eq_true hs]
      simp only [Bool.not_true, Bool.false_eq_true, if_false]
      exact e6
    · rw [decide_eq_false hs]
      simp only [Bool.not_false, if_true]
      by_cases h1 : a < 0
      · by_cases h2 : b < 0
        · left
          rw [decide_eq_true h1, decide_eq_true h2]
          simp only [beq_self_eq_true, Bool.not_true, Bool.false_eq_true, if_false]
          exact e6
        · right
          rw [decide_eq_true h1, decide_eq_false h2]
          refine ⟨?_, hs, by omega⟩
          simp only [show ((true == false) = false) from rfl, Bool.not_false, if_true]
          exact e7
      · by_cases h2 : b < 0
        · right
          rw [decide_eq_false h1, decide_eq_true h2]
          refine ⟨?_, hs, by omega⟩
          simp only [show ((false == true) = false) from rfl, Bool.not_false, if_true]
          exact e7
        · left
          rw [decide_eq_false h1, decide_eq_false h2]
          simp only [beq_self_eq_true, Bool.not_true, Bool.false_eq_true, if_false]
          exact e6
  rcases fd with h | ⟨h, h1, h2⟩
  · rw [h, w64 (n := a - s) (by omega) (by omega), w64 (by omega) (by omega)]; omega
  · rw [h, w64 (n := a - s - b) (by omega) (by omega), w64 (by omega) (by omega)]; omega
/-- The absolute value, as the code tells it. -/
theorem imax_abs {x : Int} (h : -1000000 ≤ x ∧ x ≤ 1000000) : imax x (IntKind.i64.wrap (0 - x)) = (x.natAbs : Int) := by
  rw [w64 (by omega) (by omega)]
  unfold imax
  split <;> omega
/-- The rows from i on, d of them, with a number in column c. -/
def fL (H : List Int) (m c i d : Nat) : List Nat := (List.range' i d).filter fun a => decide (nth H (a * m + c) ≠ 0)
theorem fL_succ (H : List Int) (m c i d : Nat) : fL H m c i (d + 1) = if nth H (i * m + c) ≠ 0 then i :: fL H m c (i + 1) d else fL H m c (i + 1) d := by
  unfold fL
  rw [List.range'_succ, List.filter_cons]
  by_cases h : nth H (i * m + c) ≠ 0
  · simp [h]
  · simp [h]
theorem fL_mem {H : List Int} {m c i d a : Nat} : a ∈ fL H m c i d ↔ (i ≤ a ∧ a < i + d) ∧ nth H (a * m + c) ≠ 0 := by
  unfold fL
  rw [List.mem_filter, List.mem_range'_1]
  simp
theorem fL_nodup (H : List Int) (m c i d : Nat) : (fL H m c i d).Nodup := List.Pairwise.filter _ List.nodup_range'
theorem fL_len (H : List Int) (m c i d : Nat) : (fL H m c i d).length ≤ d := by
  unfold fL
  refine Nat.le_trans (List.length_filter_le _ _) ?_
  simp
section
variable {n m c : Nat} {H : List Int}
theorem filledI (hn : n ≤ 6) (hm : m ≤ 6) (hc : c < m) (hH : H.length = n * m) : ∀ (d i : Nat) (acc : List Int), i + d = n → acc.length ≤ i → impl_Whole_filled_l0_g n m H (c : Int) ((i : Int), acc) = some (acc ++ (fL H m c i d).map fun (a : Nat) => (a : Int)) := by
  intro d
  induction d with
  | zero =>
    intro i acc hi ha
    have k0 : ¬ i < n := by omega
    refine (wi_inr (T := fun s => (impl_Whole_filled_l0_T n m H (c : Int) s).run) (r := acc) ?_).trans ?_
    · simp only [impl_Whole_filled_l0_T, Tree.run, lt_nat, k0, decide_false, Bool.false_eq_true, if_false]
    · simp [fL]
  | succ d ih =>
    intro i acc hi ha
    have k0 : i < n := by omega
    by_cases hz : nth H (i * m + c) = 0
    · refine wi_inl (T := fun s => (impl_Whole_filled_l0_T n m H (c : Int) s).run) (s' := (((i + 1 : Nat) : Int), acc)) ?_ ?_
      · simp only [impl_Whole_filled_l0_T, Tree.run, lt_nat, k0, decide_true, if_true, atWI k0 hc hn hm hH, Option.bind_some, decide_eq_true hz, Bool.not_true, Bool.false_eq_true, if_false, w1 (show i ≤ 1000 by omega)]
      · rw [fL_succ, if_neg (by simpa using hz)]
        exact ih (i + 1) acc (by omega) (by omega)
    · refine wi_inl (T := fun s => (impl_Whole_filled_l0_T n m H (c : Int) s).run) (s' := (((i + 1 : Nat) : Int), acc ++ [(i : Int)])) ?_ ?_
      · have hf : fits (acc ++ [(i : Int)]).length = true := fitsN (by simp; omega)
        simp only [impl_Whole_filled_l0_T, Tree.run, lt_nat, k0, decide_true, if_true, atWI k0 hc hn hm hH, Option.bind_some, decide_eq_false hz, Bool.not_false, hf, w1 (show i ≤ 1000 by omega)]
      · rw [fL_succ, if_pos hz]
        have := ih (i + 1) (acc ++ [(i : Int)]) (by omega) (by simp; omega)
        refine this.trans ?_
        simp
theorem filledG {r : Nat} (hn : n ≤ 6) (hm : m ≤ 6) (hc : c < m) (hr : r ≤ n) (hH : H.length = n * m) : impl_Whole_filled_g n m H (r : Int) (c : Int) = some ((fL H m c r (n - r)).map fun (a : Nat) => (a : Int)) := by
  have := filledI hn hm hc hH (n - r) r [] (by omega) (by simp)
  simp only [impl_Whole_filled_g, impl_Whole_filled_T, Tree.run, this, Option.bind_some, if_true, List.nil_append]
/-- The size of a number in the column. -/
def colA (H : List Int) (m c a : Nat) : Nat := (nth H (a * m + c)).natAbs
def minF (f : Nat → Nat) (x : Nat) (t : List Nat) : Nat := t.foldl (fun b a => if f a < f b then a else b) x
theorem minF_mem (f : Nat → Nat) : ∀ (t : List Nat) (x : Nat), minF f x t ∈ x :: t
  | [], x => by simp [minF]
  | a :: t, x => by
    have h := minF_mem f t (if f a < f x then a else x)
    have e : minF f x (a :: t) = minF f (if f a < f x then a else x) t := rfl
    rw [e]
    rcases List.mem_cons.1 h with h | h
    · rw [h]; split <;> simp
    · simp [h]
theorem minF_le (f : Nat → Nat) : ∀ (t : List Nat) (x z : Nat), z ∈ x :: t → f (minF f x t) ≤ f z
  | [], x, z, h => by
    have : z = x := by simpa using h
    subst this; exact Nat.le_refl _
  | a :: t, x, z, h => by
    have e : minF f x (a :: t) = minF f (if f a < f x then a else x) t := rfl
    rw [e]
    have h0 := minF_le f t (if f a < f x then a else x) _ (List.mem_cons_self)
    rcases List.mem_cons.1 h with h | h
    · subst h
      split at h0 <;> rename_i hc
      · rw [if_pos hc]; omega
      · rw [if_neg hc]; exact h0
    · rcases List.mem_cons.1 h with h | h
      · subst h
        split at h0 <;> rename_i hc
        · rw [if_pos hc]; exact h0
        · rw [if_neg hc]; omega
      · exact minF_le f t _ z (List.mem_cons_of_mem _ h)
theorem sizeI {i : Nat} (hn : n ≤ 6) (hm : m ≤ 6) (hi : i < n) (hc : c < m) (hH : H.length = n * m) (hb : bndB 1000000 H = true) : impl_echelon_clearColumn_1_g (i : Int) m H (c : Int) = some (colA H m c i : Int) := by
  have := bnd_iff.1 hb (i * m + c) (by rw [hH]; exact rc_lt hi hc)
  simp only [impl_echelon_clearColumn_1_g, impl_echelon_clearColumn_1_T, Tree.run, atWI hi hc hn hm hH, Option.bind_some, imax_abs this, colA]
theorem colA_le {i : Nat} (hi : i < n) (hc : c < m) (hH : H.length = n * m) (hb : bndB 1000000 H = true) : colA H m c i ≤ 1000000 := by
  have := bnd_iff.1 hb (i * m + c) (by rw [hH]; exact rc_lt hi hc)
  unfold colA; omega
theorem minLoop (hn : n ≤ 6) (hm : m ≤ 6) (hc : c < m) (hH : H.length = n * m) (hb : bndB 1000000 H = true) (l : List Nat) (hl : l.length ≤ 6) (hr : ∀ a ∈ l, a < n) : ∀ (d i b : Nat), i + d = l.length → b < n →
    slices_MinFuncI_l0_g (l.map fun (a : Nat) => (a : Int)) m H (c : Int) ((b : Int), (i : Int)) = some ((minF (colA H m c) b (l.drop i) : Nat) : Int) := by
  intro d
  induction d with
  | zero =>
    intro i b hi hbn
    have k0 : ¬ i < l.length := by omega
    refine (wi_inr (T := fun s => (slices_MinFuncI_l0_T (l.map fun (a : Nat) => (a : Int)) m H (c : Int) s).run) (r := (b : Int)) ?_).trans ?_
    · simp only [slices_MinFuncI_l0_T, Tree.run, List.length_map, lt_nat, k0, decide_false, Bool.false_eq_true, if_false]
    · rw [List.drop_eq_nil_of_le (by omega)]; rfl
  | succ d ih =>
    intro i b hi hbn
    have k0 : i < l.length := by omega
    have ei : nth (l.map fun (a : Nat) => (a : Int)) i = ((l[i] : Nat) : Int) := by rw [nth_of _ _ (by simpa using k0)]; simp
    have hli : l[i] < n := hr _ (List.getElem_mem k0)
    have q1 := colA_le hli hc hH hb
    have q2 := colA_le hbn hc hH hb
    have c2 : impl_echelon_clearColumn_2_g ((l[i] : Nat) : Int) (b : Int) m H (c : Int) = some ((colA H m c l[i] : Int) - (colA H m c b : Int)) := by
      simp only [impl_echelon_clearColumn_2_g, impl_echelon_clearColumn_2_T, Tree.run, sizeI hn hm hli hc hH hb, sizeI hn hm hbn hc hH hb, Option.bind_some]
      rw [w64 (by omega) (by omega)]
    rw [List.drop_eq_getElem_cons k0]
    have em : minF (colA H m c) b (l[i] :: l.drop (i + 1)) = minF (colA H m c) (if colA H m c l[i] < colA H m c b then l[i] else b) (l.drop (i + 1)) := rfl
    rw [em]
    by_cases h : colA H m c l[i] < colA H m c b
    · have hd : decide ((colA H m c l[i] : Int) - (colA H m c b : Int) < 0) = true := decide_eq_true (by omega)
      rw [if_pos h]
      refine wi_inl (T := fun s => (slices_MinFuncI_l0_T (l.map fun (a : Nat) => (a : Int)) m H (c : Int) s).run) ?_ (ih (i + 1) l[i] (by omega) hli)
      simp only [slices_MinFuncI_l0_T, Tree.run, List.length_map, lt_nat, inb_nat, k0, decide_true, if_true, Int.toNat_natCast, ei, c2, Option.bind_some, hd, w1 (show i ≤ 1000 by omega)]
    · have hd : decide ((colA H m c l[i] : Int) - (colA H m c b : Int) < 0) = false := decide_eq_false (by omega)
      rw [if_neg h]
      refine wi_inl (T := fun s => (slices_MinFuncI_l0_T (l.map fun (a : Nat) => (a : Int)) m H (c : Int) s).run) ?_ (ih (i + 1) b (by omega) hbn)
      simp only [slices_MinFuncI_l0_T, Tree.run, List.length_map, lt_nat, inb_nat, k0, decide_true, if_true, Int.toNat_natCast, ei, c2, Option.bind_some, hd, Bool.false_eq_true, if_false, w1 (show i ≤ 1000 by omega)]
theorem minI {U : List Int} {r1 r2 : Int} (hn : n ≤ 6) (hm : m ≤ 6) (hc : c < m) (hH : H.length = n * m) (hb : bndB 1000000 H = true) (x : Nat) (t : List Nat) (hl : t.length ≤ 5) (hr : ∀ a ∈ x :: t, a < n) :
    slices_MinFuncI_g ((x :: t).map fun (a : Nat) => (a : Int)) n m H r1 r2 U (c : Int) = some ((minF (colA H m c) x t : Nat) : Int) := by
  have c1 : decide ((((x :: t).map fun (a : Nat) => (a : Int)).length : Int) < 1) = false := decide_eq_false (by simp only [List.length_map, List.length_cons]; omega)
  have c2 : inb (0 : Int) ((x :: t).map fun (a : Nat) => (a : Int)).length = true := inb_iff.2 ⟨by omega, by simp only [List.length_map, List.length_cons]; omega⟩
  have e0 : nth ((x :: t).map fun (a : Nat) => (a : Int)) (Int.toNat 0) = (x : Int) := by rw [nth_of _ _ (by simp)]; simp
  have ml := minLoop hn hm hc hH hb (x :: t) (by simp; omega) hr t.length 1 x (by simp; omega) (hr x (by simp))
  have ml' : slices_MinFuncI_l0_g ((x :: t).map fun (a : Nat) => (a : Int)) m H (c : Int) ((x : Int), (1 : Int)) = some ((minF (colA H m c) x t : Nat) : Int) := ml
  simp only [slices_MinFuncI_g, slices_MinFuncI_T, Tree.run, c1, c2, e0, ml', Option.bind_some, Bool.false_eq_true, if_false, if_true]
def encO : Option Nat → Int
  | none => -1
  | some b => b
def stp (f : Nat → Nat) : Option Nat × Nat → Nat → Option Nat × Nat
  | (none, k), a => (some a, k + 1)
  | (some b, k), a => (some (if f a < f b then a else b), k + 1)
theorem stp_fold (f : Nat → Nat) : ∀ (t : List Nat) (b k : Nat), t.foldl (stp f) (some b, k) = (some (minF f b t), k + t.length)
  | [], b, k => rfl
  | a :: t, b, k => by
    have e : minF f b (a :: t) = minF f (if f a < f b then a else b) t := rfl
    rw [List.foldl_cons, e]
    show t.foldl (stp f) (some (if f a < f b then a else b), k + 1) = _
    rw [stp_fold f t]
    simp; omega
theorem leastS (hn : n ≤ 6) (hm : m ≤ 6) (hc : c < m) (hH : H.length = n * m) (hb : bndB 1000000 H = true) : ∀ (d i : Nat) (o : Option Nat) (k : Nat), i + d = n → k ≤ i → (∀ b, o = some b → b < n) →
    spec_l06Least_l0_g n m H (c : Int) (encO o, (k : Int), (i : Int)) = some (encO ((fL H m c i d).foldl (stp (colA H m c)) (o, k)).1, ((((fL H m c i d).foldl (stp (colA H m c)) (o, k)).2 : Nat) : Int)) := by
  intro d
  induction d with
  | zero =>
    intro i o k hi hk ho
    have k0 : ¬ i < n := by omega
    refine (wi_inr (T := fun s => (spec_l06Least_l0_T n m H (c : Int) s).run) (r := (encO o, (k : Int))) ?_).trans ?_
    · simp only [spec_l06Least_l0_T, Tree.run, lt_nat, k0, decide_false, Bool.false_eq_true, if_false]
    · simp [fL]
  | succ d ih =>
    intro i o k hi hk ho
    have k0 : i < n := by omega
    have hbi := bnd_iff.1 hb (i * m + c) (by rw [hH]; exact rc_lt k0 hc)
    by_cases hz : nth H (i * m + c) = 0
    · rw [fL_succ, if_neg (by simpa using hz)]
      refine wi_inl (T := fun s => (spec_l06Least_l0_T n m H (c : Int) s).run) ?_ (ih (i + 1) o k (by omega) (by omega) ho)
      simp only [spec_l06Least_l0_T, Tree.run, lt_nat, k0, decide_true, if_true, atWS k0 hc hn hm hH, Option.bind_some, decide_eq_true hz, w1 (show i ≤ 1000 by omega)]
    · rw [fL_succ, if_pos hz, List.foldl_cons]
      cases o with
      | none =>
        have hd : decide (encO none < 0) = true := by decide
        refine wi_inl (T := fun s => (spec_l06Least_l0_T n m H (c : Int) s).run) ?_ (ih (i + 1) (some i) (k + 1) (by omega) (by omega) (fun b h => by cases h; exact k0))
        simp only [spec_l06Least_l0_T, Tree.run, lt_nat, k0, decide_true, if_true, atWS k0 hc hn hm hH, Option.bind_some, decide_eq_false hz, hd, Bool.false_eq_true, if_false, w1 (show i ≤ 1000 by omega), w1 (show k ≤ 1000 by omega)]
        rfl
      | some b =>
        have hbn := ho b rfl
        have hbb := bnd_iff.1 hb (b * m + c) (by rw [hH]; exact rc_lt hbn hc)
        have hd : decide (encO (some b) < 0) = false := decide_eq_false (by show ¬ ((b : Int) < 0); omega)
        have ab : spec_l06At_g m H (encO (some b)) (c : Int) = some (nth H (b * m + c)) := atWS hbn hc hn hm hH
        have i1 := imax_abs hbi
        have i2 := imax_abs hbb
        by_cases h : colA H m c i < colA H m c b
        · have hcmp : decide (((nth H (i * m + c)).natAbs : Int) < ((nth H (b * m + c)).natAbs : Int)) = true := decide_eq_true (by unfold colA at h; omega)
          have es : stp (colA H m c) (some b, k) i = (some i, k + 1) := by simp only [stp, if_pos h]
          rw [es]
          refine wi_inl (T := fun s => (spec_l06Least_l0_T n m H (c : Int) s).run) ?_ (ih (i + 1) (some i) (k + 1) (by omega) (by omega) (fun b h => by cases h; exact k0))
          simp only [spec_l06Least_l0_T, Tree.run, lt_nat, k0, decide_true, if_true, atWS k0 hc hn hm hH, ab, i1, i2, hcmp, Option.bind_some, decide_eq_false hz, hd, Bool.false_eq_true, if_false, w1 (show i ≤ 1000 by omega), w1 (show k ≤ 1000 by omega)]
          rfl
        · have hcmp : decide (((nth H (i * m + c)).natAbs : Int) < ((nth H (b * m + c)).natAbs : Int)) = false := decide_eq_false (by unfold colA at h; omega)
          have es : stp (colA H m c) (some b, k) i = (some b, k + 1) := by simp only [stp, if_neg h]
          rw [es]
          refine wi_inl (T := fun s => (spec_l06Least_l0_T n m H (c : Int) s).run) ?_ (ih (i + 1) (some b) (k + 1) (by omega) (by omega) (fun b' h => by cases h; exact hbn))
          simp only [spec_l06Least_l0_T, Tree.run, lt_nat, k0, decide_true, if_true, atWS k0 hc hn hm hH, ab, i1, i2, hcmp, Option.bind_some, decide_eq_false hz, hd, Bool.false_eq_true, if_false, w1 (show i ≤ 1000 by omega), w1 (show k ≤ 1000 by omega)]
theorem leastG {r : Nat} (hn : n ≤ 6) (hm : m ≤ 6) (hc : c < m) (hr : r ≤ n) (hH : H.length = n * m) (hb : bndB 1000000 H = true) :
    spec_l06Least_g n m H (r : Int) (c : Int) = some (match fL H m c r (n - r) with | [] => ((-1 : Int), (0 : Int)) | x :: t => (((minF (colA H m c) x t : Nat) : Int), (((t.length + 1 : Nat)) : Int))) := by
  have := leastS hn hm hc hH hb (n - r) r none 0 (by omega) (by omega) (fun b h => by cases h)
  have e0 : (encO none, ((0 : Nat) : Int), (r : Int)) = ((-1 : Int), (0 : Int), (r : Int)) := rfl
  rw [e0] at this
  simp only [spec_l06Least_g, spec_l06Least_T, Tree.run, this, Option.bind_some, if_true]
  cases hf : fL H m c r (n - r) with
  | nil => rfl
  | cons x t =>
    rw [List.foldl_cons]
    have : stp (colA H m c) (none, 0) x = (some x, 0 + 1) := rfl
    rw [this, stp_fold]
    simp only [encO]
    congr 2
    omega
end
end Go.Proofs.Ytbjnjaclmcpbbaa.AM
