/- Valid sheets. -/
import Derived.Test.YthdmkdkbfhoahaaM0
set_option linter.unusedSimpArgs false
set_option linter.unusedVariables false
namespace Go.Proofs.Ythdmkdkbfhoahaa.AM

def notName (s : ByteArray) : Bool := (List.range s.size).any fun i => decide (bt s i < 97) || decide ((122 : Int) < bt s i)
theorem toM_ok (r c : Int) (xs : List Nat) (h : xs.length ≤ maxN) : laws_toMatrix_g r c xs = some (r, c, xs) := by
  simp [laws_toMatrix_g, laws_toMatrix_T, Tree.run, toF_ok xs h]
theorem toS_ok (s : ByteArray) (r c : Int) (xs : List Nat) (h : xs.length ≤ maxN) : laws_toSheet_g s r c xs = some (s, r, c, xs) := by
  simp [laws_toSheet_g, laws_toSheet_T, Tree.run, toM_ok r c xs h]
theorem eqSheet_self (s : ByteArray) (r c : Int) (xs : List Nat) (h : xs.length ≤ maxN) : laws_eqSheet_g s r c xs s r c xs = some true := by
  simp [laws_eqSheet_g, laws_eqSheet_T, Tree.run, eqM_self r c xs h]
theorem szF_len (n : Nat) (l : Int) (h1 : 0 ≤ l) (h2 : l ≤ 1048576) (hn : n < 9223372036854775808) : laws_szFloat32S_len_v n l = if (n : Int) ≤ l then l - n else -1 := by
  unfold laws_szFloat32S_len_v
  rw [w64 (by omega) (by omega)]
  by_cases c : (n : Int) ≤ l
  · rw [if_neg (by simp; omega), if_pos c]
  · rw [if_pos (by simp; omega), if_neg c]
theorem szM_len (n : Nat) (l : Int) (h1 : 0 ≤ l) (h2 : l ≤ 1048576) (hn : n < 9223372036854775808) : laws_szMatrix_len_v n l = if (n : Int) ≤ l then l - n else -1 := by
  unfold laws_szMatrix_len_v
  rw [szF_len n l h1 h2 hn]
  by_cases c : (n : Int) ≤ l
  · rw [if_pos c, if_neg (by simp; omega)]
  · rw [if_neg c]; simp
end Go.Proofs.Ythdmkdkbfhoahaa.AM
