/- Opening arguments down to their cells. -/
import Derived.Test.YtmgpbchacndndaaS1
set_option linter.unusedSimpArgs false
set_option linter.unusedVariables false
namespace Go.Proofs.Ytmgpbchacndndaa.AM
open Go Go.Proofs Go.RowKit Go.ChangeShapes Go.WideShapes Go.Deep

theorem list3 {α : Type} {l : List α} (h : l.length = 3) : ∃ a b c, l = [a, b, c] := by match l, h with | [a, b, c], _ => exact ⟨a, b, c, rfl⟩
section
variable {HH : Type} {enc : TypeId × Value → HH} {P : Program} {W : World} {base : Nat} {H : Heap} {μ : Mem} {t e : TypeId} {v : Value} {d : DataW HH} {p : List MemPlace}

/-- A part of a struct. -/
theorem sub_struct {fs : Array Field} (ht : P.underlying t = some (.struct fs)) {n : Nat} {y : DataW HH × List MemPlace} {cs : List Value} (h : DataW.trod enc P W 0 (fun _ => true) true n t cs = some y) :
    ∀ (i : Nat) (f : Field), fs[i]? = some f → ∃ n' y', DataW.trod enc P W 0 (fun _ => true) true n' f.type ((cs.drop f.offset).take (P.cellsOf f.type)) = some y' := by
  intro i f hi
  obtain ⟨xs, n, _, _, _, hl, hx⟩ := DataW.trod_struct ht h
  have hlt : i < xs.length := by rw [hl]; exact (Array.getElem?_eq_some_iff.1 hi).1
  have := hx i f hi
  rw [List.getElem?_eq_getElem hlt] at this
  exact ⟨n, _, by simpa using this⟩
theorem sub_field {fs : Array Field} (ht : P.underlying t = some (.struct fs)) {n : Nat} {y : DataW HH × List MemPlace} {cs : List Value} (h : DataW.trod enc P W 0 (fun _ => true) true n t cs = some y)
    (i : Nat) (u : TypeId) (o k : Nat) (hf : (fs[i]?).map (fun f => (f.type, f.offset)) = some (u, o)) (hk : P.cellsOf u = k) (l : List Value) (hl : (cs.drop o).take k = l) : ∃ n' y', DataW.trod enc P W 0 (fun _ => true) true n' u l = some y' := by
  cases hi : fs[i]? with
  | none => rw [hi] at hf; cases hf
  | some f =>
    rw [hi] at hf
    simp only [Option.map_some, Option.some.injEq, Prod.mk.injEq] at hf
    obtain ⟨rfl, rfl⟩ := hf
    have := sub_struct ht h i f hi
    rw [hk, hl] at this
    exact this
theorem of_trod (h : DataW.Trod enc P W 0 (fun _ => true) true t v d p) : ∃ n y, DataW.trod enc P W 0 (fun _ => true) true n t v.cells.toList = some y := by
  obtain ⟨n, h⟩ := h; exact ⟨n, _, h⟩
/-- A struct's cells. -/
theorem cells_struct {fs : Array Field} {ts : List TypeId} (ht : P.underlying t = some (.struct fs)) (hts : P.cellTypes P.depth t = some ts) (hn : P.cellsOf t = ts.length)
    (hval : Value.okWide P W .any base t v) : ∃ vs : List Value, v = .agg ⟨vs⟩ ∧ vs.length = ts.length ∧ ∀ (i : Nat) (u : Value) (q : TypeId), vs[i]? = some u → ts[i]? = some q → Cell.okWide P W .any base q u := by
  simp only [Value.okWide, ht] at hval
  obtain ⟨⟨vs⟩, rfl, hsz, ts', h1, _, h2⟩ := hval
  rw [hts] at h1; cases h1
  have hl : vs.length = ts.length := by rw [hn] at hsz; simpa using hsz
  refine ⟨vs, rfl, hl, fun i u q hu hq => ?_⟩
  obtain ⟨q', k1, k2⟩ := h2 i u (by simpa using hu)
  have hlt : i < ts.length := (List.getElem?_eq_some_iff.1 hq).1
  rw [Nat.mod_eq_of_lt hlt, hq] at k1
  cases k1; exact k2

/-! one cell -/
theorem leaf_sl {α : Type} (c : Cd α) (ht : P.underlying t = some (.slice e)) (hce : P.cellsOf e = 1)
    (hel : ∀ (n : Nat) (u : Value) (y : DataW HH × List MemPlace), DataW.trod enc P W 0 (fun _ => true) true n e [u] = some y → CellIs c u)
    (hval : Cell.okWide P W .any base t v) {n : Nat} {y : DataW HH × List MemPlace} (htr : DataW.trod enc P W 0 (fun _ => true) true n t [v] = some y) (hno : NoOwn H) (hr : HR H μ W) :
    ∃ H' μ' s, Extw W H μ H' μ' ∧ VR H' μ' s v ∧ SlA c H' s := by
  have h1 : Value.okWide P W .any base t v := by simp only [Value.okWide, ht]; exact hval
  obtain ⟨a, len, cap, rfl⟩ := okWide_slice ht h1
  exact arg_slice c ht hce hel h1 (d := y.1) (p := y.2) ⟨n, by simpa [Value.cells] using htr⟩ hno hr
theorem leaf_i64s (ht : P.underlying t = some (.slice e)) (he : P.underlying e = some (.int .i64)) (hce : P.cellsOf e = 1)
    (hval : Cell.okWide P W .any base t v) {n : Nat} {y : DataW HH × List MemPlace} (htr : DataW.trod enc P W 0 (fun _ => true) true n t [v] = some y) (hno : NoOwn H) (hr : HR H μ W) :
    ∃ H' μ' s, Extw W H μ H' μ' ∧ VR H' μ' s v ∧ SlA cI H' s :=
  leaf_sl cI ht hce (fun n u y h => by obtain ⟨b, hb, _, hw⟩ := DataW.trod_int he h; simp at hb; subst hb; exact ⟨b, lit_i64 hw, fun H μ => .int .i64 b⟩) hval htr hno hr
theorem leaf_int {k : IntKind} (ht : P.underlying t = some (.int k)) (hval : Cell.okWide P W .any base t v) : ∃ n, v = .int k n ∧ k.has n := by
  unfold Cell.okWide at hval
  rw [ht] at hval
  simp only at hval
  unfold Cell.ok at hval
  rw [ht] at hval
  cases v <;> simp only at hval
  obtain ⟨rfl, h⟩ := hval
  exact ⟨_, rfl, h⟩
theorem i64_has {n : Int} (h : IntKind.i64.has n) : -9223372036854775808 ≤ n ∧ n < 9223372036854775808 := by
  have h1 : IntKind.i64.max = 9223372036854775807 := by decide
  have h2 : IntKind.i64.min = -9223372036854775808 := by decide
  unfold IntKind.has at h
  omega
theorem slen_lens {s : AV} {n : Nat} (h : slen H s = some n) : Lens H s n := by
  rcases slen_inv h with ⟨rfl, rfl⟩ | ⟨r, rfl, hl, hn⟩
  · exact .inl ⟨rfl, rfl⟩
  · obtain ⟨B, k1, k2⟩ := live_iff.1 hl
    exact .inr ⟨r, B, rfl, k1, k2, hn⟩
theorem slen_max {s : AV} {n : Nat} (h : slen H s = some n) : n < 9223372036854775808 := by
  rcases slen_inv h with ⟨rfl, rfl⟩ | ⟨r, rfl, hl, hn⟩
  · omega
  · exact hn
end
theorem VRs.cons {H : Heap} {μ : Mem} {x : AV} {xs : List AV} {v : Value} {vs : List Value} (h : VR H μ x v) (hs : VRs H μ xs ⟨vs⟩) : VRs H μ (x :: xs) ⟨v :: vs⟩ := by
  refine ⟨by have := hs.1; simp at this ⊢; exact this, fun i c u hc hu => ?_⟩
  cases i with
  | zero => simp at hc hu; subst hc; subst hu; exact h
  | succ i => exact hs.2 i c u (by simpa using hc) (by simpa using hu)
theorem VR.ofs {H : Heap} {μ : Mem} {xs : List AV} {vs : List Value} (h : VRs H μ xs ⟨vs⟩) : VR H μ (.agg xs) (.agg ⟨vs⟩) := .agg _ _ h.1 h.2
end Go.Proofs.Ytmgpbchacndndaa.AM
