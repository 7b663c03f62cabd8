/- Ends of functions; rows that are being filled; Newton's walk. -/
import Derived.Test.YtbhmllcnfdndhaaC2
set_option linter.unusedSimpArgs false
set_option linter.unusedVariables false
namespace Go.Proofs.Ytbhmllcnfdndhaa.AM

section
variable {P : Program}
theorem ret_at {rs : List ResultVar} {r : AV} {H' : Heap} {e : Env} {nb : Nat} (hn : nb ≤ H'.length) (hws : WS H') (h : resA P rs e H' = some r) (hr : r.within H'.length = true) : retQ P rs nb r H' .ret e H' :=
  ⟨r, h, _, WkH.refl hn hws, Wk1.self hr⟩
theorem ret_drop {rs : List ResultVar} {r : AV} {H' G : Heap} {e : Env} {nb : Nat} (hn : nb ≤ H'.length) (hws : WS H') (h : resA P rs e (H' ++ G) = some r) (hr : r.within H'.length = true) : retQ P rs nb r H' .ret e (H' ++ G) :=
  ⟨r, h, _, WkH.drop hn hws, Wk1.self hr⟩
end

theorem WS.blk1 {α : Type} {H : Heap} (h : WS H) (c : Cd α) (xs : List α) : WS (H ++ [blk c xs]) := h.push (all_flat c xs)

/-- A row of length n whose first k cells are told. -/
def fill {α : Type} (d : α) (xs : List α) (k : Nat) : List α := xs.take k ++ List.replicate (xs.length - k) d
@[simp] theorem fill_length {α : Type} (d : α) (xs : List α) (k : Nat) : (fill d xs k).length = xs.length := by simp [fill]; omega
theorem fill_zero {α : Type} (d : α) (xs : List α) : fill d xs 0 = List.replicate xs.length d := by simp [fill]
theorem fill_full {α : Type} (d : α) (xs : List α) : fill d xs xs.length = xs := by simp [fill]
theorem fill_set {α : Type} (d : α) (xs : List α) (k : Nat) (h : k < xs.length) : (fill d xs k).set k xs[k] = fill d xs (k + 1) := by
  unfold fill
  obtain ⟨m, hm⟩ : ∃ m, xs.length = k + 1 + m := ⟨xs.length - (k + 1), by omega⟩
  have e1 : xs.length - k = m + 1 := by omega
  have e2 : xs.length - (k + 1) = m := by omega
  rw [e1, e2, List.replicate_succ, List.set_append_right _ _ (by simp; omega)]
  have e3 : k - (xs.take k).length = 0 := by simp; omega
  rw [e3, List.set_cons_zero, List.take_succ_eq_append_getElem h, List.append_assoc]
  rfl

theorem st_new0 {α : Type} (c : Cd α) (H L : Heap) (ys : List α) (i v : Nat) (x : α) (hi : i < ys.length) (hv : v = ys.length) : stN (H ++ blk c ys :: L) ⟨H.length, i, v⟩ [c.en x] = some (H ++ blk c (ys.set i x) :: L) := by
  subst hv
  have := st_get (c := c) (H := H ++ blk c ys :: L) (a := H.length) (xs := ys) (by simp) i x hi
  simpa using this

/-- Values at whose like two numbers are the same: a NaN with a NaN, a zero with its own. -/
def sameF (x y : Nat) : Bool :=
  if (!feq .f64 x x || !feq .f64 y y) = true then !feq .f64 x x && !feq .f64 y y
  else if (feq .f64 x 0 && feq .f64 y 0) = true then (fgrt .f64 (fdiv .f64 4607182418800017408 x) 0) == (fgrt .f64 (fdiv .f64 4607182418800017408 y) 0)
  else feq .f64 x y
theorem sameF_self (x : Nat) : sameF x x = true := by
  unfold sameF
  split
  · rename_i h; simpa using h
  · rename_i h
    split
    · simp
    · simpa using h

/-- Newton's walk from the top: after k rounds. -/
def newt (xs ds : List Nat) (at' : Nat) : Nat → Nat
  | 0 => ds.getD (ds.length - 1) 0
  | k + 1 => fadd .f32 (fmul .f32 (newt xs ds at' k) (fsub .f32 at' (xs.getD (xs.length - 2 - k) 0))) (ds.getD (ds.length - 2 - k) 0)

theorem wrapI64 (n : Int) (h1 : -9223372036854775808 ≤ n) (h2 : n < 9223372036854775808) : IntKind.i64.wrap n = n := by
  rw [IntKind.wrap_i64]; omega

theorem getD_of {α : Type} (xs : List α) (i : Nat) (d : α) (h : i < xs.length) : xs.getD i d = xs[i] := by simp [List.getD_eq_getElem?_getD, List.getElem?_eq_getElem h]

section
variable (H L : Heap) (b0 b1 b2 : Blk)
theorem stF0 (ys : List Nat) (i v : Nat) (x : Nat) (hi : i < ys.length) (hv : v = ys.length) : stN (H ++ blk cF ys :: L) ⟨H.length, i, v⟩ [.flt .f32 x] = some (H ++ blk cF (ys.set i x) :: L) := st_new0 cF H L ys i v x hi hv
theorem stD0 (ys : List Nat) (i v : Nat) (x : Nat) (hi : i < ys.length) (hv : v = ys.length) : stN (H ++ blk cD ys :: L) ⟨H.length, i, v⟩ [.flt .f64 x] = some (H ++ blk cD (ys.set i x) :: L) := st_new0 cD H L ys i v x hi hv
theorem stI0 (ys : List Int) (i v : Nat) (x : Int) (hi : i < ys.length) (hv : v = ys.length) : stN (H ++ blk cI ys :: L) ⟨H.length, i, v⟩ [.int .i64 x] = some (H ++ blk cI (ys.set i x) :: L) := st_new0 cI H L ys i v x hi hv
theorem stB0 (ys : List Bool) (i v : Nat) (x : Bool) (hi : i < ys.length) (hv : v = ys.length) : stN (H ++ blk cB ys :: L) ⟨H.length, i, v⟩ [.bool x] = some (H ++ blk cB (ys.set i x) :: L) := st_new0 cB H L ys i v x hi hv
theorem stU0 (ys : List Int) (i v : Nat) (x : Int) (hi : i < ys.length) (hv : v = ys.length) : stN (H ++ blk cU8 ys :: L) ⟨H.length, i, v⟩ [.int .u8 x] = some (H ++ blk cU8 (ys.set i x) :: L) := st_new0 cU8 H L ys i v x hi hv
end
attribute [simp] stF0 stD0 stI0 stB0 stU0

theorem wrap1 (k : Nat) (h : k < 4611686018427387904) : IntKind.i64.wrap ((k : Int) + 1) = (k : Int) + 1 := wrap_succ k h

@[simp] theorem wk1_self (n : Nat) (x : AV) : Wk1 n (fun i => i) x x ↔ x.within n = true := by
  constructor
  · rintro (h | h)
    · subst h; rfl
    · exact h.2
  · exact Wk1.self

end Go.Proofs.Ytbhmllcnfdndhaa.AM
