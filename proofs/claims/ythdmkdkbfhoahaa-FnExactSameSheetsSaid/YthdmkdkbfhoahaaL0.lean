/- What the laws' own helpers come to: copies, comparisons, marks. -/
import Derived.Test.YthdmkdkbfhoahaaX1
import Derived.Test.YthdmkdkbfhoahaaD17
set_option linter.unusedSimpArgs false
set_option linter.unusedVariables false
namespace Go.Proofs.Ythdmkdkbfhoahaa.AM

theorem toF_ok (xs : List Nat) (h : xs.length ≤ maxN) : laws_toFloat32S_g xs = some xs := by
  have hm := h
  unfold maxN at hm
  have hT : ∀ i (s : List Nat), i < xs.length → (s = fill 0 xs i) → ((laws_toFloat32S_l0_T xs ((i : Int), s)).run = some (.inl (((i + 1 : Nat) : Int), s.set i (nth xs i))) ∧ s.set i (nth xs i) = fill 0 xs (i + 1)) := by
    rintro i s hi rfl
    refine ⟨?_, fill_set 0 xs i hi⟩
    simp [laws_toFloat32S_l0_T, Tree.run, hi, w_succ (show i < 4611686018427387904 by omega)]
  have he : ∀ s : List Nat, s = fill 0 xs xs.length → (laws_toFloat32S_l0_T xs ((xs.length : Int), s)).run = some (.inr s) := by
    rintro s rfl
    simp [laws_toFloat32S_l0_T, Tree.run]
  have := whileM_for (T := fun s => (laws_toFloat32S_l0_T xs s).run) (fun i s => ((i : Int), s)) (fun i s => s.set i (nth xs i)) (fun i s => s = fill 0 xs i) (s := fill 0 xs 0) rfl hT he
  obtain ⟨h1, h2⟩ := this
  rw [h2, fill_full] at h1
  have hb : inb ((xs.length : Nat) : Int) (maxN + 1) = true := by rw [inb_nat]; simp; omega
  simp only [laws_toFloat32S_g, laws_toFloat32S_T, Tree.run, if_true, hb, laws_toFloat32S_l0_g]
  rw [fill_zero] at h1
  simp only [Int.toNat_natCast]
  show ((whileM (fun s => (laws_toFloat32S_l0_T xs s).run) ((0 : Int), List.replicate xs.length 0)).bind fun b => some b) = some xs
  rw [show ((0 : Int), List.replicate xs.length (0 : Nat)) = (((0 : Nat) : Int), List.replicate xs.length 0) from rfl, h1]
  rfl

theorem same_self (x : Nat) : laws_sameFloat_v x x = true := by
  unfold laws_sameFloat_v
  cases h : feq .f64 x x <;> simp [h]

theorem eqF_self (xs : List Nat) (h : xs.length ≤ maxN) : laws_eqFloat32S_g xs xs = some true := by
  have hm := h
  unfold maxN at hm
  have hT : ∀ i, i < xs.length → (laws_eqFloat32S_l0_T xs xs (i : Int)).run = if (false : Bool) = true then some (.inr (.inl ())) else some (.inl ((i + 1 : Nat) : Int)) := by
    intro i hi
    simp [laws_eqFloat32S_l0_T, Tree.run, hi, same_self, w_succ (show i < 4611686018427387904 by omega)]
  have he : (laws_eqFloat32S_l0_T xs xs (xs.length : Int)).run = some (.inr (.inr ())) := by
    simp [laws_eqFloat32S_l0_T, Tree.run]
  have := whileM_scan (T := fun s => (laws_eqFloat32S_l0_T xs xs s).run) (p := fun _ => false) hT he
  simp only [laws_eqFloat32S_g, laws_eqFloat32S_T, Tree.run, if_true, laws_eqFloat32S_l0_g]
  rw [this]
  simp [Tree.run]

end Go.Proofs.Ythdmkdkbfhoahaa.AM
