/- What the laws' own helpers come to: copies, comparisons, marks. -/
import Derived.Test.YtimlecagkbbnpaaX1
import Derived.Test.YtimlecagkbbnpaaD17
set_option linter.unusedSimpArgs false
set_option linter.unusedVariables false
namespace Go.Proofs.Ytimlecagkbbnpaa.AM

theorem toF_ok (xs : List Nat) (h : xs.length ≤ maxN) : laws_toFloat32S_g xs = some xs := by
  have hm := h
  unfold maxN at hm
  have hT : ∀ i (s : List Nat), i < xs.length → (s = fill 0 xs i) → ((laws_toFloat32S_l0_T xs ((i : Int), s)).run = some (.inl (((i + 1 : Nat) : Int), s.set i (nth xs i))) ∧ s.set i (nth xs i) = fill 0 xs (i + 1)) := by
    rintro i s hi rfl
    refine ⟨?_, fill_set 0 xs i hi⟩
    simp [laws_toFloat32S_l0_T, Tree.run, hi, w_succ (show i < 4611686018427387904 by omega)]
  have he : ∀ s : List Nat, s = fill 0 xs xs.length → (laws_toFloat32S_l0_T xs ((xs.length : Int), s)).run = some (.inr s) := by
    rintro s rfl
    simp [laws_toFloat32S_l0_T, Tree.run]
  have := whileM_for (T := fun s => (laws_toFloat32S_l0_T xs s).run) (fun i s => ((i : Int), s)) (fun i s => s.set i (nth xs i)) (fun i s => s = fill 0 xs i) (s := fill 0 xs 0) rfl hT he
  obtain ⟨h1, h2⟩ := this
  rw [h2, fill_full] at h1
  have hb : inb ((xs.length : Nat) : Int) (maxN + 1) = true := by rw [inb_nat]; simp; omega
  simp only [laws_toFloat32S_g, laws_toFloat32S_T, Tree.run, if_true, hb, laws_toFloat32S_l0_g]
  rw [fill_zero] at h1
  simp only [Int.toNat_natCast]
  show ((whileM (fun s => (laws_toFloat32S_l0_T xs s).run) ((0 : Int), List.replicate xs.length 0)).bind fun b => some b) = some xs
  rw [show ((0 : Int), List.replicate xs.length (0 : Nat)) = (((0 : Nat) : Int), List.replicate xs.length 0) from rfl, h1]
  rfl

theorem same_self (x : Nat) : laws_sameFloat_v x x = true := by
  unfold laws_sameFloat_v
  cases h : feq .f64 x x <;> simp [h]

theorem eqF_self (xs : List Nat) (h : xs.length ≤ maxN) : laws_eqFloat32S_g xs xs = some true := by
  have hm := h
  unfold maxN at hm
  have hT : ∀ i, i < xs.length → (laws_eqFloat32S_l0_T xs xs (i : Int)).run = if (false : Bool) = true then some (.inr (.inl ())) else some (.inl ((i + 1 : Nat) : Int)) := by
    intro i hi
    simp [laws_eqFloat32S_l0_T, Tree.run, hi, same_self, w_succ (show i < 4611686018427387904 by omega)]
  have he : (laws_eqFloat32S_l0_T xs xs (xs.length : Int)).run = some (.inr (.inr ())) := by
    simp [laws_eqFloat32S_l0_T, Tree.run]
  have := whileM_scan (T := fun s => (laws_eqFloat32S_l0_T xs xs s).run) (p := fun _ => false) hT he
  simp only [laws_eqFloat32S_g, laws_eqFloat32S_T, Tree.run, if_true, laws_eqFloat32S_l0_g]
  rw [this]
  simp [Tree.run]

theorem mark_ok (xs : List Nat) (k : Int) (h : xs.length ≤ maxN) (h0 : 0 ≤ k) (h1 : k ≤ 1099511627776) : laws_markFloat32S_g xs k = some (k + xs.length, marks k xs.length) := by
  have hm := h
  unfold maxN at hm
  have hT : ∀ i (s : List Nat), i < xs.length → s = marked k xs i → ((laws_markFloat32S_l0_T (k + (i : Nat), (i : Int), s)).run = some (.inl (k + ((i + 1 : Nat) : Int), ((i + 1 : Nat) : Int), s.set i (fofint .f32 (k + i)))) ∧ s.set i (fofint .f32 (k + i)) = marked k xs (i + 1)) := by
    rintro i s hi rfl
    refine ⟨?_, marked_set k xs i hi⟩
    have hl := marked_length k xs i (by omega)
    have e : IntKind.i64.wrap (k + (i : Int) + 1) = k + ((i + 1 : Nat) : Int) := by rw [w64 (by omega) (by omega)]; omega
    simp [laws_markFloat32S_l0_T, Tree.run, hi, hl, w_succ (show i < 4611686018427387904 by omega), e]
  have he : ∀ s : List Nat, s = marked k xs xs.length → (laws_markFloat32S_l0_T (k + (xs.length : Nat), (xs.length : Int), s)).run = some (.inr (k + (xs.length : Nat), s)) := by
    rintro s rfl
    have hl := marked_length k xs xs.length (by omega)
    simp [laws_markFloat32S_l0_T, Tree.run, hl]
  have := whileM_for (T := fun s => (laws_markFloat32S_l0_T s).run) (fun i s => (k + (i : Nat), (i : Int), s)) (fun i s => s.set i (fofint .f32 (k + i))) (fun i s => s = marked k xs i) (s := xs) (r := fun s => (k + (xs.length : Nat), s)) (marked_zero k xs).symm hT he
  obtain ⟨g1, g2⟩ := this
  rw [g2, marked_full] at g1
  simp only [laws_markFloat32S_g, laws_markFloat32S_T, Tree.run, if_true, laws_markFloat32S_l0_g]
  have e0 : (k, (0 : Int), xs) = (k + ((0 : Nat) : Int), ((0 : Nat) : Int), xs) := by simp
  rw [e0, g1]
  rfl
theorem held_ok (k : Int) (n : Nat) (h : n ≤ maxN) (h0 : 0 ≤ k) (h1 : k ≤ 1099511627776) : laws_heldFloat32S_g (marks k n) k = some (k + n) := by
  have hm := h
  unfold maxN at hm
  have hT : ∀ i (s : Unit), i < n → True → ((laws_heldFloat32S_l0_T (marks k n) (k + (i : Nat), (i : Int))).run = some (.inl (k + ((i + 1 : Nat) : Int), ((i + 1 : Nat) : Int))) ∧ True) := by
    intro i s hi _
    have e : IntKind.i64.wrap (k + (i : Int) + 1) = k + ((i + 1 : Nat) : Int) := by rw [w64 (by omega) (by omega)]; omega
    simp [laws_heldFloat32S_l0_T, Tree.run, hi, marks_nth k n i hi, w_succ (show i < 4611686018427387904 by omega), e]
  have he : ∀ s : Unit, True → (laws_heldFloat32S_l0_T (marks k n) (k + (n : Nat), (n : Int))).run = some (.inr (.inr (k + (n : Nat)))) := by
    intro s _
    simp [laws_heldFloat32S_l0_T, Tree.run]
  have := whileM_for (T := fun s => (laws_heldFloat32S_l0_T (marks k n) s).run) (fun i (_ : Unit) => (k + (i : Nat), (i : Int))) (fun _ s => s) (fun _ _ => True) (s := ()) (r := fun _ => .inr (k + (n : Nat))) trivial hT he
  simp only [laws_heldFloat32S_g, laws_heldFloat32S_T, Tree.run, if_true, laws_heldFloat32S_l0_g]
  have e0 : (k, (0 : Int)) = (k + ((0 : Nat) : Int), ((0 : Nat) : Int)) := by simp
  rw [e0, this.1]
  rfl
theorem held_nil (k : Int) (h0 : 0 ≤ k) (h1 : k ≤ 1099511627776) : laws_heldFloat32S_g [] k = some k := by
  have := held_ok k 0 (by unfold maxN; omega) h0 h1
  simpa [marks] using this
end Go.Proofs.Ytimlecagkbbnpaa.AM
