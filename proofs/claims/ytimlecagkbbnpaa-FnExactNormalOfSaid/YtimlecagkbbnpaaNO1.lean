/- Choices: sets of k numbers less than n, on both sides. -/
import Derived.Test.YtimlecagkbbnpaaNO0
set_option linter.unusedSimpArgs false
set_option linter.unusedVariables false
set_option maxHeartbeats 1000000
set_option maxRecDepth 100000
namespace Go.Proofs.Ytimlecagkbbnpaa.AM

/-- The places of the bits of a number less than 16. -/
def bits (a : Nat) : List Int := ((List.range 4).filter fun i => a / 2 ^ i % 2 == 1).map Int.ofNat
def chs (n k : Nat) : List (List Int) := ((List.range (2 ^ n)).map bits).filter fun l => l.length == k
def okL (o : Option (List Int)) (a : Nat) : Bool := match o with | some l => l == bits a | none => false
theorem okL_iff {o : Option (List Int)} {a : Nat} (h : okL o a = true) : o = some (bits a) := by
  cases o with
  | none => cases h
  | some l => exact congrArg some (eq_of_beq h)
theorem listI0 : ((List.range 16).all fun a => okL (runN (fun s => (impl_list_l0_T (a : Int) s).run) 66 ((0 : Int), ([] : List Int))) a) = true := by kernel_rfl
theorem listI {a : Nat} (h : a < 16) : impl_list_g (a : Int) = some (bits a) := by
  have h1 := List.all_eq_true.1 listI0 a (List.mem_range.2 h)
  have h2 : impl_list_l0_g (a : Int) ((0 : Int), ([] : List Int)) = some (bits a) := runN_ok (T := fun s => (impl_list_l0_T (a : Int) s).run) 66 _ _ (okL_iff h1)
  simp only [impl_list_g, impl_list_T, Tree.run, h2, Option.bind_some, if_true]
theorem listS0 : ((List.range 5).all fun n => (List.range (2 ^ n)).all fun a => okL (runN (fun s => (spec_l06Choices_l2_T (n : Int) (a : Int) [] [] s).run) 6 ((0 : Int), ([] : List Int))) a) = true := by kernel_rfl
theorem listS {n a : Nat} (hn : n < 5) (h : a < 2 ^ n) (P : List (List Int)) (X : List Nat) : spec_l06Choices_l2_g (n : Int) (a : Int) P X ((0 : Int), ([] : List Int)) = some (bits a) := by
  have h1 := List.all_eq_true.1 (List.all_eq_true.1 listS0 n (List.mem_range.2 hn)) a (List.mem_range.2 h)
  exact runN_ok (T := fun s => (spec_l06Choices_l2_T (n : Int) (a : Int) P X s).run) 6 _ _ (okL_iff h1)
theorem chLoop {T : Int × List (List Int) × List Nat → Option ((Int × List (List Int) × List Nat) ⊕ (List (List Int) × List Nat))} {N k : Nat}
    (hT : ∀ (i : Nat) (P : List (List Int)), i < N → P.length ≤ i → T ((i : Int), P, List.range' 1 P.length) = some (.inl (((i + 1 : Nat) : Int), if (bits i).length = k then (P ++ [bits i], List.range' 1 P.length ++ [P.length + 1]) else (P, List.range' 1 P.length))))
    (he : ∀ (P : List (List Int)), T ((N : Int), P, List.range' 1 P.length) = some (.inr (P, List.range' 1 P.length))) :
    ∀ (d i : Nat) (P : List (List Int)), i + d = N → P.length ≤ i → whileM T ((i : Int), P, List.range' 1 P.length) = some (P ++ ((List.range' i d).map bits).filter (fun l => l.length == k), List.range' 1 (P ++ ((List.range' i d).map bits).filter (fun l => l.length == k)).length)
  | 0, i, P, h, hl => by
    have : i = N := by omega
    subst this
    rw [wi_inr (he P)]
    simp
  | d + 1, i, P, h, hl => by
    have hT' := hT i P (by omega) hl
    by_cases hk : (bits i).length = k
    · rw [if_pos hk] at hT'
      have e : List.range' 1 P.length ++ [P.length + 1] = List.range' 1 (P ++ [bits i]).length := by
        rw [List.length_append, List.length_singleton, List.range'_1_concat, Nat.add_comm 1 P.length]
      rw [e] at hT'
      rw [wi_inl hT' (chLoop hT he d (i + 1) (P ++ [bits i]) (by omega) (by simp; omega))]
      simp only [List.range'_succ, List.map_cons, List.filter_cons, hk, beq_self_eq_true, if_true, List.append_assoc, List.singleton_append]
    · rw [if_neg hk] at hT'
      rw [wi_inl hT' (chLoop hT he d (i + 1) P (by omega) (by omega))]
      have hb : ((bits i).length == k) = false := by simpa using hk
      simp only [List.range'_succ, List.map_cons, List.filter_cons, hb, Bool.false_eq_true, if_false]
theorem pow16 {n : Nat} (hn : n < 5) : 2 ^ n ≤ 16 := Nat.pow_le_pow_right (n := 2) (by omega) (show n ≤ 4 by omega)
theorem shlU : ∀ n : Nat, n < 5 → ishl .u64 (1 : Int) (n : Int) = ((2 ^ n : Nat) : Int) := by decide
theorem shlI : ∀ n : Nat, n < 5 → ishl .i64 (1 : Int) (IntKind.u64.wrap (n : Int)) = ((2 ^ n : Nat) : Int) := by decide
theorem u64in {n : Int} (h1 : 0 ≤ n) (h2 : n < 18446744073709551616) : IntKind.u64.wrap n = n := by
  simp [IntKind.wrap, IntKind.bits, IntKind.signed]; omega
theorem u1 {k : Nat} (h : k ≤ 1000) : IntKind.u64.wrap ((k : Int) + 1) = ((k + 1 : Nat) : Int) := by
  rw [u64in (by omega) (by omega)]; omega
theorem chI {n k : Nat} (hn : n < 5) : impl_choices_g (n : Int) (k : Int) = some (chs n k, List.range' 1 (chs n k).length) := by
  have p16 := pow16 hn
  have l := chLoop (T := fun s => (impl_choices_l0_T (n : Int) (k : Int) s).run) (N := 2 ^ n) (k := k) (by
    intro i P hi hl
    have c1 : decide ((i : Int) < ishl .u64 (1 : Int) (n : Int)) = true := decide_eq_true (by rw [shlU n hn]; omega)
    have c2 := listI (a := i) (by omega)
    have c3 := u1 (show i ≤ 1000 by omega)
    have c4 : fits ((List.range' 1 P.length).length + 1) = true := fitsN (by simp; omega)
    have c5 : impl_degree_g (i : Int) = some ((bits i).length : Int) := by
      simp only [impl_degree_g, impl_degree_T, Tree.run, c2, Option.bind_some]
      rfl
    by_cases hk : (bits i).length = k
    · have d : decide (((bits i).length : Int) = (k : Int)) = true := decide_eq_true (by omega)
      rw [if_pos hk]
      simp only [impl_choices_l0_T, Tree.run, c1, c2, c3, c4, c5, d, Option.bind_some, if_true]
    · have d : decide (((bits i).length : Int) = (k : Int)) = false := decide_eq_false (by omega)
      rw [if_neg hk]
      simp only [impl_choices_l0_T, Tree.run, c1, c2, c3, c4, c5, d, Option.bind_some, if_true, Bool.false_eq_true, if_false]) (by
    intro P
    have c1 : decide (((2 ^ n : Nat) : Int) < ishl .u64 (1 : Int) (n : Int)) = false := decide_eq_false (by rw [shlU n hn]; omega)
    simp only [impl_choices_l0_T, Tree.run, c1, Bool.false_eq_true, if_false]) (2 ^ n) 0 [] (Nat.zero_add _) (Nat.le_refl _)
  have l' : impl_choices_l0_g (n : Int) (k : Int) ((0 : Int), ([] : List (List Int)), ([] : List Nat)) = some (chs n k, List.range' 1 (chs n k).length) := by
    have e : ((List.range' 0 (2 ^ n)).map bits).filter (fun l => l.length == k) = chs n k := by
      rw [chs, List.range_eq_range']
    rw [e, List.nil_append] at l
    exact l
  have c0 : decide ((0 : Int) ≤ (n : Int)) = true := decide_eq_true (by omega)
  simp only [impl_choices_g, impl_choices_T, Tree.run, c0, l', Option.bind_some, if_true]
theorem chS {n k : Nat} (hn : n < 5) : spec_l06Choices_g (n : Int) (k : Int) = some (chs n k, List.range' 1 (chs n k).length) := by
  have p16 := pow16 hn
  have c0 : decide ((0 : Int) ≤ IntKind.u64.wrap (n : Int)) = true := decide_eq_true (by rw [u64in (by omega) (by omega)]; omega)
  have l := chLoop (T := fun s => (spec_l06Choices_l0_T (n : Int) (k : Int) s).run) (N := 2 ^ n) (k := k) (by
    intro i P hi hl
    have c1 : decide ((i : Int) < ishl .i64 (1 : Int) (IntKind.u64.wrap (n : Int))) = true := decide_eq_true (by rw [shlI n hn]; omega)
    have c2 := listS (a := i) hn hi P (List.range' 1 P.length)
    have c3 := w1 (show i ≤ 1000 by omega)
    have c4 : fits ((List.range' 1 P.length).length + 1) = true := fitsN (by simp; omega)
    by_cases hk : (bits i).length = k
    · have d : decide (((bits i).length : Int) = (k : Int)) = true := decide_eq_true (by omega)
      rw [if_pos hk]
      simp only [spec_l06Choices_l0_T, Tree.run, c0, c1, c2, c3, c4, d, Option.bind_some, if_true]
    · have d : decide (((bits i).length : Int) = (k : Int)) = false := decide_eq_false (by omega)
      rw [if_neg hk]
      simp only [spec_l06Choices_l0_T, Tree.run, c0, c1, c2, c3, c4, d, Option.bind_some, if_true, Bool.false_eq_true, if_false]) (by
    intro P
    have c1 : decide (((2 ^ n : Nat) : Int) < ishl .i64 (1 : Int) (IntKind.u64.wrap (n : Int))) = false := decide_eq_false (by rw [shlI n hn]; omega)
    simp only [spec_l06Choices_l0_T, Tree.run, c0, c1, Bool.false_eq_true, if_false, if_true]) (2 ^ n) 0 [] (Nat.zero_add _) (Nat.le_refl _)
  have l' : spec_l06Choices_l0_g (n : Int) (k : Int) ((0 : Int), ([] : List (List Int)), ([] : List Nat)) = some (chs n k, List.range' 1 (chs n k).length) := by
    have e : ((List.range' 0 (2 ^ n)).map bits).filter (fun l => l.length == k) = chs n k := by
      rw [chs, List.range_eq_range']
    rw [e, List.nil_append] at l
    exact l
  simp only [spec_l06Choices_g, spec_l06Choices_T, Tree.run, l', Option.bind_some, if_true]
/-- What all sets obey. -/
def chB (n k : Nat) : Bool := (chs n k).all fun R => R.length == k && R.all (fun x => decide (0 ≤ x) && decide (x < n))
def chT (n k : Nat) : Bool := (chs n (k + 1)).all fun R => (chs n k).contains (R.drop 1) && (List.range (k + 1)).all fun i => (chs n k).contains (R.take i ++ R.drop (i + 1))
theorem chB_all : ((List.range 5).all fun n => (List.range 5).all fun k => chB n k) = true := by kernel_rfl
theorem chT_all : ((List.range 5).all fun n => (List.range 5).all fun k => chT n k) = true := by kernel_rfl
theorem ch_mem {n k : Nat} (hn : n < 5) (hk : k < 5) {R : List Int} (h : R ∈ chs n k) : R.length = k ∧ ∀ x ∈ R, ∃ a : Nat, x = a ∧ a < n := by
  have h1 := List.all_eq_true.1 (List.all_eq_true.1 (List.all_eq_true.1 chB_all n (List.mem_range.2 hn)) k (List.mem_range.2 hk)) R h
  simp only [Bool.and_eq_true, beq_iff_eq, List.all_eq_true, decide_eq_true_eq] at h1
  exact ⟨h1.1, fun x hx => ⟨x.toNat, by have := h1.2 x hx; omega, by have := h1.2 x hx; omega⟩⟩
theorem ch_tail {n k : Nat} (hn : n < 5) (hk : k < 5) {R : List Int} (h : R ∈ chs n (k + 1)) : R.drop 1 ∈ chs n k ∧ ∀ i, i < k + 1 → R.take i ++ R.drop (i + 1) ∈ chs n k := by
  have h1 := List.all_eq_true.1 (List.all_eq_true.1 (List.all_eq_true.1 chT_all n (List.mem_range.2 hn)) k (List.mem_range.2 hk)) R h
  simp only [Bool.and_eq_true, List.all_eq_true, List.contains_iff_mem, List.mem_range] at h1
  exact ⟨h1.1, fun i hi => h1.2 i hi⟩
/-- All minors of k rows are 0. -/
def allZ (n m k : Nat) (M : List Int) : Prop := ∀ R ∈ chs n k, ∀ C ∈ chs m k, mnr m M R C = 0
theorem allZ_succ {n m k : Nat} {M : List Int} (hn : n < 5) (hm : m < 5) (hk : k < 4) (h : allZ n m k M) : allZ n m (k + 1) M := by
  intro R hR C hC
  obtain ⟨l1, _⟩ := ch_mem hn (show k + 1 < 5 by omega) hR
  obtain ⟨l2, _⟩ := ch_mem hm (show k + 1 < 5 by omega) hC
  refine mnr_zero (by omega) fun i hi => ?_
  exact h _ (ch_tail hn (by omega) hR).1 _ ((ch_tail hm (by omega) hC).2 i (by omega))
end Go.Proofs.Ytimlecagkbbnpaa.AM
