import Derived.Test.YtmgpbchacndndaaS1
set_option linter.unusedSimpArgs false
set_option linter.unusedVariables false
namespace Go.Proofs.Ytmgpbchacndndaa.AM
open Go Go.Proofs Go.RowKit Go.ChangeShapes Go.WideShapes Go.Deep
section
variable {HH : Type} {enc : TypeId × Value → HH} {P : Program} {W : World} {base : Nat} {H : Heap} {μ : Mem} {t e : TypeId} {v : Value} {d : DataW HH} {p : List MemPlace}
theorem Tv_ (h : DataW.Trod enc P W 0 (fun _ => true) true t v d p) : ∃ n y, DataW.trod enc P W 0 (fun _ => true) true n t v.cells.toList = some y := by
  obtain ⟨n, h⟩ := h; exact ⟨n, _, h⟩
theorem Aia_ {α : Type} (c : Cd α) (ht : P.underlying t = some (.slice e)) (hce : P.cellsOf e = 1)
    (hel : ∀ (n : Nat) (u : Value) (y : DataW HH × List MemPlace), DataW.trod enc P W 0 (fun _ => true) true n e [u] = some y → Le_ c u)
    (hval : Cell.okWide P W .any base t v) {n : Nat} {y : DataW HH × List MemPlace} (htr : DataW.trod enc P W 0 (fun _ => true) true n t [v] = some y) (hno : NoOwn H) (hr : HR H μ W) :
    ∃ H' μ' s, Extw W H μ H' μ' ∧ VR H' μ' s v ∧ SlA c H' s := by
  have h1 : Value.okWide P W .any base t v := by simp only [Value.okWide, ht]; exact hval
  obtain ⟨a, len, cap, rfl⟩ := okWide_slice ht h1
  exact Akj_ c ht hce hel h1 (d := y.1) (p := y.2) ⟨n, by simpa [Value.cells] using htr⟩ hno hr
theorem Alp_ {n : Int} (h : (Lit.int .u8 n).wf = true) : 0 ≤ n ∧ n < 256 := by
  have h1 : IntKind.u8.min = 0 := by decide
  have h3 : IntKind.u8.max = 255 := by decide
  simp [Lit.wf, h1] at h
  omega
theorem Uk_ (ht : P.underlying t = some (.slice e)) (he : P.underlying e = some (.int .u8)) (hce : P.cellsOf e = 1)
    (hval : Cell.okWide P W .any base t v) {n : Nat} {y : DataW HH × List MemPlace} (htr : DataW.trod enc P W 0 (fun _ => true) true n t [v] = some y) (hno : NoOwn H) (hr : HR H μ W) :
    ∃ H' μ' s, Extw W H μ H' μ' ∧ VR H' μ' s v ∧ SlA cU8 H' s :=
  Aia_ cU8 ht hce (fun n u y h => by obtain ⟨b, hb, _, hw⟩ := DataW.trod_int he h; simp at hb; subst hb; exact ⟨b, Alp_ hw, fun H μ => .int .u8 b⟩) hval htr hno hr
theorem K7_ {s : AV} {n : Nat} (h : slen H s = some n) : Lens H s n := by
  rcases Q1_ h with ⟨rfl, rfl⟩ | ⟨r, rfl, hl, hn⟩
  · exact .inl ⟨rfl, rfl⟩
  · obtain ⟨B, k1, k2⟩ := Av_.1 hl
    exact .inr ⟨r, B, rfl, k1, k2, hn⟩
theorem X8_ {s : AV} {n : Nat} (h : slen H s = some n) : n < 9223372036854775808 := by
  rcases Q1_ h with ⟨rfl, rfl⟩ | ⟨r, rfl, hl, hn⟩
  · omega
  · exact hn
end
theorem VRs.cons {H : Heap} {μ : Mem} {x : AV} {xs : List AV} {v : Value} {vs : List Value} (h : VR H μ x v) (hs : VRs H μ xs ⟨vs⟩) : VRs H μ (x :: xs) ⟨v :: vs⟩ := by
  refine ⟨by have := hs.1; simp at this ⊢; exact this, fun i c u hc hu => ?_⟩
  cases i with
  | zero => simp at hc hu; subst hc; subst hu; exact h
  | succ i => exact hs.2 i c u (by simpa using hc) (by simpa using hu)
end Go.Proofs.Ytmgpbchacndndaa.AM
