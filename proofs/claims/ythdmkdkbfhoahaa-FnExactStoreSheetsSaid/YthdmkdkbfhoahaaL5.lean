/- Valid sheets. -/
import Derived.Test.YthdmkdkbfhoahaaM0
set_option linter.unusedSimpArgs false
set_option linter.unusedVariables false
namespace Go.Proofs.Ythdmkdkbfhoahaa.AM

def notName (s : ByteArray) : Bool := (List.range s.size).any fun i => decide (bt s i < 97) || decide ((122 : Int) < bt s i)
theorem nameL (s : ByteArray) (h : s.size < 9223372036854775808) : spec_l07Name_l0_g s 0 = some (if notName s = true then .inl () else .inr ()) := by
  have hT : ∀ i, i < s.size → (spec_l07Name_l0_T s (i : Int)).run = if (decide (bt s i < 97) || decide ((122 : Int) < bt s i)) = true then some (.inr (.inl ())) else some (.inl ((i + 1 : Nat) : Int)) := by
    intro i hi
    have w : IntKind.i64.wrap ((i : Int) + 1) = ((i + 1 : Nat) : Int) := by rw [w64 (by omega) (by omega)]; omega
    simp only [spec_l07Name_l0_T, Tree.run, lt_nat, inb_nat, hi, decide_true, if_true, w]
    cases h1 : decide (bt s i < 97) <;> cases h2 : decide ((122 : Int) < bt s i) <;> simp [Tree.run]
  have he : (spec_l07Name_l0_T s (s.size : Int)).run = some (.inr (.inr ())) := by
    simp [spec_l07Name_l0_T, Tree.run]
  exact whileM_scan (T := fun s' => (spec_l07Name_l0_T s s').run) hT he
theorem nameS (s : ByteArray) (h : s.size < 9223372036854775808) : spec_l07Name_g s = some (!notName s && decide ((1 : Int) ≤ (s.size : Int)) && decide ((s.size : Int) ≤ 8)) := by
  simp only [spec_l07Name_g, spec_l07Name_T, Tree.run, nameL s h, if_true, Option.bind_some]
  cases notName s <;> cases h1 : decide ((1 : Int) ≤ (s.size : Int)) <;> simp [Tree.run, h1]
theorem nameI (s : ByteArray) (h : s.size < 9223372036854775808) : impl_IsName_g s = some (!notName s && decide ((1 : Int) ≤ (s.size : Int)) && decide ((s.size : Int) ≤ 8)) := by
  have e : impl_IsName_l0_g s 0 = spec_l07Name_l0_g s 0 := rfl
  simp only [impl_IsName_g, impl_IsName_T, Tree.run, e, nameL s h, if_true, Option.bind_some, inR]
  cases notName s <;> simp [Tree.run]
theorem sidesS (r c : Int) : spec_l02Sides_v r c = (decide (1 ≤ r) && decide (r ≤ 12) && (decide (1 ≤ c) && decide (c ≤ 12))) := by
  unfold spec_l02Sides_v spec_l00In_v
  cases h1 : decide ((1 : Int) ≤ r) <;> cases h2 : decide (r ≤ 12) <;> cases h3 : decide ((1 : Int) ≤ c) <;> simp [h1, h2, h3]
theorem matS (r c : Int) (xs : List Nat) (h : xs.length ≤ maxN) : spec_l02Is_g r c xs = some (decide (1 ≤ r) && decide (r ≤ 12) && (decide (1 ≤ c) && decide (c ≤ 12)) && decide ((xs.length : Int) = IntKind.i64.wrap (r * c)) && xs.all sfin) := by
  simp only [spec_l02Is_g, spec_l02Is_T, Tree.run, sidesS, finiteS xs h, Option.bind_some]
  cases (decide (1 ≤ r) && decide (r ≤ 12) && (decide (1 ≤ c) && decide (c ≤ 12))) <;> by_cases h2 : (xs.length : Int) = IntKind.i64.wrap (r * c) <;> simp [Tree.run, h2]
theorem matI (r c : Int) (xs : List Nat) (h : xs.length ≤ maxN) : impl_ValidMatrix_g r c xs = some (decide (1 ≤ r) && decide (r ≤ 12) && (decide (1 ≤ c) && decide (c ≤ 12)) && decide ((xs.length : Int) = IntKind.i64.wrap (r * c)) && xs.all sfin) := by
  simp only [impl_ValidMatrix_g, impl_ValidMatrix_T, Tree.run, impl_isSide_v, impl_lengthF_v, inR, areFin xs h, Option.bind_some]
  cases (decide (1 ≤ r) && decide (r ≤ 12)) <;> cases (decide (1 ≤ c) && decide (c ≤ 12)) <;> by_cases h2 : (xs.length : Int) = IntKind.i64.wrap (r * c) <;> simp [Tree.run, h2]
theorem toM_ok (r c : Int) (xs : List Nat) (h : xs.length ≤ maxN) : laws_toMatrix_g r c xs = some (r, c, xs) := by
  simp [laws_toMatrix_g, laws_toMatrix_T, Tree.run, toF_ok xs h]
theorem toS_ok (s : ByteArray) (r c : Int) (xs : List Nat) (h : xs.length ≤ maxN) : laws_toSheet_g s r c xs = some (s, r, c, xs) := by
  simp [laws_toSheet_g, laws_toSheet_T, Tree.run, toM_ok r c xs h]
theorem eqSheet_self (s : ByteArray) (r c : Int) (xs : List Nat) (h : xs.length ≤ maxN) : laws_eqSheet_g s r c xs s r c xs = some true := by
  simp [laws_eqSheet_g, laws_eqSheet_T, Tree.run, eqM_self r c xs h]
theorem szF_len (n : Nat) (l : Int) (h1 : 0 ≤ l) (h2 : l ≤ 1048576) (hn : n < 9223372036854775808) : laws_szFloat32S_len_v n l = if (n : Int) ≤ l then l - n else -1 := by
  unfold laws_szFloat32S_len_v
  rw [w64 (by omega) (by omega)]
  by_cases c : (n : Int) ≤ l
  · rw [if_neg (by simp; omega), if_pos c]
  · rw [if_pos (by simp; omega), if_neg c]
theorem szM_len (n : Nat) (l : Int) (h1 : 0 ≤ l) (h2 : l ≤ 1048576) (hn : n < 9223372036854775808) : laws_szMatrix_len_v n l = if (n : Int) ≤ l then l - n else -1 := by
  unfold laws_szMatrix_len_v
  rw [szF_len n l h1 h2 hn]
  by_cases c : (n : Int) ≤ l
  · rw [if_pos c, if_neg (by simp; omega)]
  · rw [if_neg c]; simp
end Go.Proofs.Ythdmkdkbfhoahaa.AM
