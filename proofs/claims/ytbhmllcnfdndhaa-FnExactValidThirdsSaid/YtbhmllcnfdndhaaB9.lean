/- The abstract machine, part 18: the words that simp knows. -/
import Derived.Test.YtbhmllcnfdndhaaB8
set_option linter.unusedSimpArgs false
set_option linter.unusedVariables false
namespace Go.Proofs.Ytbhmllcnfdndhaa.AM

section
variable {P : Program} {H : Heap}
@[simp] theorem loadA_ptr (t : TypeId) (r : Ref) : loadA P H t (.ptr r) = (match P.underlying t with
    | some (.struct _) => (szA P t).bind fun n => (ldN H r n).map AV.agg
    | some (.array _ _) => none
    | some _ => ldC H r
    | none => none) := rfl
@[simp] theorem storeA_ptr (t : TypeId) (r : Ref) (v : AV) : storeA P H t (.ptr r) v = v.cellsA.bind fun cs => if szA P t = some cs.length then stN H r cs else none := rfl
@[simp] theorem len_slc (t : TypeId) (r : Ref) (n : Nat) : builtinA P H .len [t] [.slc r n] = (match P.underlying t with
    | some (.slice _) => if live H r then some (.int .i64 n, H) else none
    | _ => none) := by
  simp only [builtinA]
  cases P.underlying t with
  | none => rfl
  | some d => cases d <;> rfl
@[simp] theorem len_nil (t : TypeId) : builtinA P H .len [t] [.nilslc] = (match P.underlying t with
    | some (.slice _) => some (.int .i64 0, H)
    | _ => none) := by
  simp only [builtinA]
  cases P.underlying t with
  | none => rfl
  | some d => cases d <;> rfl
@[simp] theorem len_str (t : TypeId) (s : ByteArray) : builtinA P H .len [t] [.str s] = (match P.underlying t with
    | some .string => some (.int .i64 s.size, H)
    | _ => none) := by
  simp only [builtinA]
  cases P.underlying t with
  | none => rfl
  | some d => cases d <;> rfl
@[simp] theorem builtin_append (t tx : TypeId) (s x : AV) : builtinA P H .append [t, tx] [s, x] = appendA P H t tx s x := rfl
@[simp] theorem builtin_max (ts : List TypeId) (x y : AV) : builtinA P H .max ts [x, y] = (max2A x y).map fun v => (v, H) := by
  cases ts with
  | nil => simp [builtinA]
  | cons t ts => cases ts <;> simp [builtinA]
@[simp] theorem builtin_min (ts : List TypeId) (x y : AV) : builtinA P H .min ts [x, y] = (min2A x y).map fun v => (v, H) := by
  cases ts with
  | nil => simp [builtinA]
  | cons t ts => cases ts <;> simp [builtinA]
@[simp] theorem index_slc (t : TypeId) (r : Ref) (n : Nat) (k : IntKind) (i : Int) : indexAddrA P H t (.slc r n) (.int k i) =
    (elemA P t).bind fun e => (szA P e).bind fun sz => match H[r.id]? with
    | some B => if r.ver = B.cells.length ∧ B.sz = sz ∧ 0 ≤ i ∧ i < n then some (.ptr ⟨r.id, r.off + i.toNat * sz, r.ver⟩) else none
    | none => none := rfl
@[simp] theorem field_ptr (s : TypeId) (r : Ref) (f : Nat) : fieldAddrA P H s (.ptr r) f =
    (fieldOff P s f).bind fun q => (szA P q.2).bind fun n => if n = 0 then none else if live H r then some (.ptr ⟨r.id, r.off + q.1, r.ver⟩) else none := rfl
@[simp] theorem live_new0 (b : Blk) (L : Heap) (o v : Nat) : live (H ++ b :: L) ⟨H.length, o, v⟩ = (v == b.cells.length) := by simp [live]
@[simp] theorem live_newj (L : Heap) (j o v : Nat) : live (H ++ L) ⟨H.length + j, o, v⟩ = (match L[j]? with | some b => v == b.cells.length | none => false) := by simp [live]; rfl
@[simp] theorem ldC_new0 (b : Blk) (L : Heap) (o v : Nat) : ldC (H ++ b :: L) ⟨H.length, o, v⟩ = if v = b.cells.length then b.cells[o]? else none := by simp [ldC]
@[simp] theorem ldC_newj (L : Heap) (j o v : Nat) : ldC (H ++ L) ⟨H.length + j, o, v⟩ = (match L[j]? with | some b => if v = b.cells.length then b.cells[o]? else none | none => none) := by simp [ldC]; rfl
theorem elemA_of {t e : TypeId} (h : P.underlying t = some (.slice e)) : elemA P t = some e := by simp [elemA, h]
end

section
variable {α : Type} {c : Cd α} {H L : Heap}
@[simp] theorem rd_new0 (xs : List α) (L : Heap) : rd c (H ++ blk c xs :: L) (.slc ⟨H.length, 0, xs.length⟩ xs.length) = if xs.length ≤ maxL then some xs else none := by
  split
  · exact rd_own (a := H.length) (by simp) (by assumption)
  · simp [rd, *]
@[simp] theorem rd_new1 (b0 : Blk) (xs : List α) (L : Heap) : rd c (H ++ b0 :: blk c xs :: L) (.slc ⟨H.length + 1, 0, xs.length⟩ xs.length) = if xs.length ≤ maxL then some xs else none := by
  split
  · exact rd_own (a := H.length + 1) (by simp) (by assumption)
  · simp [rd, *]
@[simp] theorem rd_new2 (b0 b1 : Blk) (xs : List α) (L : Heap) : rd c (H ++ b0 :: b1 :: blk c xs :: L) (.slc ⟨H.length + 2, 0, xs.length⟩ xs.length) = if xs.length ≤ maxL then some xs else none := by
  split
  · exact rd_own (a := H.length + 2) (by simp) (by assumption)
  · simp [rd, *]
@[simp] theorem rd_new3 (b0 b1 b2 : Blk) (xs : List α) (L : Heap) : rd c (H ++ b0 :: b1 :: b2 :: blk c xs :: L) (.slc ⟨H.length + 3, 0, xs.length⟩ xs.length) = if xs.length ≤ maxL then some xs else none := by
  split
  · exact rd_own (a := H.length + 3) (by simp) (by assumption)
  · simp [rd, *]
@[simp] theorem rd_new4 (b0 b1 b2 b3 : Blk) (xs : List α) (L : Heap) : rd c (H ++ b0 :: b1 :: b2 :: b3 :: blk c xs :: L) (.slc ⟨H.length + 4, 0, xs.length⟩ xs.length) = if xs.length ≤ maxL then some xs else none := by
  split
  · exact rd_own (a := H.length + 4) (by simp) (by assumption)
  · simp [rd, *]
@[simp] theorem rd_nil : rd c H .nilslc = some [] := rfl
end

/-! the walk through several blocks of the call's own -/
theorem WS.push {H : Heap} {b : Blk} (h : WS H) (hb : b.cells.all AV.isFlat = true) : WS (H ++ [b]) := by
  intro i B hB c hc
  rw [List.getElem?_append] at hB
  split at hB
  · exact within_mono (by simp) c (h i B hB c hc)
  · rename_i hge
    have : b = B := by
      cases hi : i - H.length with
      | zero => rw [hi] at hB; simpa using hB
      | succ n => rw [hi] at hB; simp at hB
    subst this
    exact flat_within (List.all_eq_true.1 hb c hc)

end Go.Proofs.Ytbhmllcnfdndhaa.AM
