/- The abstract machine, part 19: rows of numbers: make, literals, append, stores. -/
import Derived.Test.YtbhmllcnfdndhaaB9
set_option linter.unusedSimpArgs false
set_option linter.unusedVariables false
namespace Go.Proofs.Ytbhmllcnfdndhaa.AM

/-- What the program's tables say of a slice type t with elements e that read by c. -/
structure Elem {α : Type} (P : Program) (t e : TypeId) (c : Cd α) (d : α) : Prop where
  ht : P.underlying t = some (.slice e)
  hs : szA P e = some 1
  hd : ∃ u, P.underlying e = some u ∧ aggD u = false
  hi : ∃ i z, P.info? e = some i ∧ i.size = 1 ∧ i.bytes ≤ 1024 ∧ i.zero = some z ∧ z.cells.size = 1 ∧ absC (z.cells.getD 0 undef) = c.en d ∧ i.hasPointers = false

section
variable {α : Type} {P : Program} {t e : TypeId} {c : Cd α} {d : α}

theorem Elem.make (h : Elem P t e c d) (H : Heap) (k k' : IntKind) (n : Nat) (hn : n ≤ maxL) :
    makeA P H t (.int k n) (.int k' n) = some (.slc ⟨H.length, 0, n⟩ n, H ++ [blk c (List.replicate n d)]) := by
  obtain ⟨i, z, h1, h2, h3, h4, h5, h6, h7⟩ := h.hi
  unfold maxL at hn
  simp only [makeA, elemA_of h.ht, Option.bind_some, h1, h4, h6, h2, h5, h7, h3]
  rw [if_pos (by simp; omega)]
  simp [newA, blk, List.map_replicate, c.flat]

theorem Elem.lit0 (h : Elem P t e c d) (H : Heap) : ((buildSliceA P H t 0 []).bind fun q => (newA H q.1 q.2.1 q.2.2).map fun r => ((.slc r.1 0 : AV), r.2)) = some (.slc ⟨H.length, 0, 0⟩ 0, H ++ [blk c ([] : List α)]) := by
  obtain ⟨i, z, h1, h2, h3, h4, h5, h6, h7⟩ := h.hi
  simp [buildSliceA, elemA_of h.ht, h1, h2, h4, h5, h7, newA, blk, fillA]
theorem Elem.lit1 (h : Elem P t e c d) (H : Heap) (x : α) : ((buildSliceA P H t 1 [(0, c.en x)]).bind fun q => (newA H q.1 q.2.1 q.2.2).map fun r => ((.slc r.1 1 : AV), r.2)) = some (.slc ⟨H.length, 0, 1⟩ 1, H ++ [blk c [x]]) := by
  obtain ⟨i, z, h1, h2, h3, h4, h5, h6, h7⟩ := h.hi
  have hc : (c.en x).cellsA = some [c.en x] := by
    have := c.flat x
    cases hx : c.en x <;> rw [hx] at this <;> simp [AV.isFlat] at this <;> rfl
  simp [-AV.cellsA, buildSliceA, elemA_of h.ht, h1, h2, h4, h5, h7, newA, blk, fillA, hc, cellOk_flat (c.flat x), putAt, c.flat]

theorem putAt_map_set (xs : List α) (i : Nat) (v : α) : putAt (xs.map c.en) i [c.en v] = (xs.set i v).map c.en := by
  simp [putAt, List.map_set]

theorem st_get {H : Heap} {a : Nat} {xs : List α} (hB : H[a]? = some (blk c xs)) (i : Nat) (v : α) (hi : i < xs.length) : stN H ⟨a, i, xs.length⟩ [c.en v] = some (H.set a (blk c (xs.set i v))) := by
  simp [stN, hB, cellOk_flat (c.flat v), c.flat v, putAt_map_set, blk]
  omega

theorem Elem.app {H : Heap} {a : Nat} {xs ys : List α} {x : AV} (h : Elem P t e c d) (hB : H[a]? = some (blk c xs)) (hx : rd c H x = some ys) (hm : xs.length + ys.length ≤ maxL) :
    appendA P H t t (.slc ⟨a, 0, xs.length⟩ xs.length) x = some (.slc ⟨a, 0, (xs ++ ys).length⟩ (xs ++ ys).length, H.set a (blk c (xs ++ ys))) := by
  obtain ⟨i, z, h1, h2, h3, h4, h5, h6, h7⟩ := h.hi
  unfold maxL at hm
  have hal : a < H.length := (List.getElem?_eq_some_iff.1 hB).1
  simp only [appendA, elemA_of h.ht, Option.bind_some, h.ht, ne_eq, not_true_eq_false, if_false, rd_len hx, rd_rdS hx, appA, h1, h2, h4, h5, h3, List.length_map, Nat.mul_one, Nat.zero_lt_one, true_and,
    all_cellOk, and_true, if_true, hB, blk_cells, blk_own, blk_sz, blk_flat, all_flat, hm]
  by_cases hy : ys.length = 0
  · have : ys = [] := List.eq_nil_of_length_eq_zero hy
    subst this
    obtain ⟨h1', h2'⟩ := List.getElem?_eq_some_iff.1 hB
    simp only [List.length_nil, if_true, List.append_nil]
    rw [← h2', List.set_getElem_self]
    simp [h2']
  · simp [hy, blk]

end
end Go.Proofs.Ytbhmllcnfdndhaa.AM
