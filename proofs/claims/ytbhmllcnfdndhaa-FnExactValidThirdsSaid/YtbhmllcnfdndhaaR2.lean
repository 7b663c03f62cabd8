/- Opening structs. -/
import Derived.Test.YtbhmllcnfdndhaaR1
set_option linter.unusedSimpArgs false
set_option linter.unusedVariables false
namespace Go.Proofs.Ytbhmllcnfdndhaa.AM
open Go Go.Proofs Go.RowKit Go.ChangeShapes Go.WideShapes Go.Deep

section
variable {HH : Type} {enc : TypeId × Value → HH} {P : Program} {W : World} {base : Nat} {H : Heap} {μ : Mem} {t e : TypeId} {v : Value} {d : DataW HH} {p : List MemPlace}

/-- A struct, opened: its cells, each as its type wants it, and each field's reading. -/
theorem open_struct {fs : Array Field} {ts : List TypeId} (ht : P.underlying t = some (.struct fs)) (hts : P.cellTypes P.depth t = some ts) (hn : P.cellsOf t = ts.length)
    (hval : Value.okWide P W .any base t v) (htr : DataW.Trod enc P W 0 (fun _ => true) true t v d p) :
    ∃ vs : Array Value, v = .agg vs ∧ vs.size = ts.length ∧ (∀ (i : Nat) (u : Value), vs[i]? = some u → ∃ q, ts[i]? = some q ∧ Cell.okWide P W .any base q u) ∧
      ∀ (i : Nat) (f : Field), fs[i]? = some f → ∃ n y, DataW.trod enc P W 0 (fun _ => true) true n f.type ((vs.toList.drop f.offset).take (P.cellsOf f.type)) = some y := by
  simp only [Value.okWide, ht] at hval
  obtain ⟨vs, rfl, hsz, ts', h1, _, h2⟩ := hval
  rw [hts] at h1; cases h1
  obtain ⟨fuel, hf⟩ := htr
  refine ⟨vs, rfl, by omega, fun i u hu => ?_, fun i f hi => ?_⟩
  · obtain ⟨q, k1, k2⟩ := h2 i u hu
    have hlt : i < ts.length := by have := (Array.getElem?_eq_some_iff.1 hu).1; omega
    rw [Nat.mod_eq_of_lt hlt] at k1
    exact ⟨q, k1, k2⟩
  · obtain ⟨xs, n, _, _, _, hl, hx⟩ := DataW.trod_struct ht hf
    have hlt : i < xs.length := by rw [hl]; exact (Array.getElem?_eq_some_iff.1 hi).1
    have := hx i f hi
    rw [List.getElem?_eq_getElem hlt] at this
    exact ⟨n, _, by simpa [Value.cells] using this⟩

theorem fieldTrod {n : Nat} {y : DataW HH × List MemPlace} {u : Value} (hc : u.cells = #[u]) (h : DataW.trod enc P W 0 (fun _ => true) true n t [u] = some y) : DataW.Trod enc P W 0 (fun _ => true) true t u y.1 y.2 :=
  ⟨n, by rw [hc]; exact h⟩

/-- A field that is a slice. -/
theorem cell_slice (ht : P.underlying t = some (.slice e)) (h : Cell.okWide P W .any base t v) : Value.okWide P W .any base t v ∧ v.cells = #[v] := by
  have h1 : Value.okWide P W .any base t v := by simp only [Value.okWide, ht]; exact h
  obtain ⟨a, len, cap, rfl⟩ := okWide_slice ht h1
  exact ⟨h1, rfl⟩
end

/-- A struct of three slices of single-precision numbers. -/
theorem arg_thirds {HH : Type} {enc : TypeId × Value → HH} {P : Program} {W : World} {base : Nat} {H : Heap} {μ : Mem} {t s e : TypeId} {v : Value} {d : DataW HH} {p : List MemPlace} {f0 f1 f2 : Field}
    (ht : P.underlying t = some (.struct #[f0, f1, f2])) (hts : P.cellTypes P.depth t = some [s, s, s]) (hn : P.cellsOf t = 3)
    (h0 : f0.type = s ∧ f0.offset = 0) (h1 : f1.type = s ∧ f1.offset = 1) (h2 : f2.type = s ∧ f2.offset = 2)
    (hs : P.underlying s = some (.slice e)) (hsc : P.cellsOf s = 1) (he : P.underlying e = some (.float .f32)) (hec : P.cellsOf e = 1)
    (hval : Value.okWide P W .any base t v) (htr : DataW.Trod enc P W 0 (fun _ => true) true t v d p) (hno : NoOwn H) (hr : HR H μ W) :
    ∃ H' μ' a b c, Ext W H μ H' μ' ∧ VR H' μ' (.agg [a, b, c]) v ∧ SlA cF H' a ∧ SlA cF H' b ∧ SlA cF H' c := by
  obtain ⟨vs, rfl, hsz, hcell, hfld⟩ := open_struct ht hts hn hval htr
  match vs, hsz with
  | ⟨[u0, u1, u2]⟩, _ =>
    have one : ∀ (i : Nat) (u : Value) (f : Field), (#[u0, u1, u2] : Array Value)[i]? = some u → #[f0, f1, f2][i]? = some f → f.type = s → f.offset = i → ([u0, u1, u2].drop i).take 1 = [u] →
        Value.okWide P W .any base s u ∧ ∃ d p, DataW.Trod enc P W 0 (fun _ => true) true s u d p := by
      intro i u f hu hf hft hfo hd
      obtain ⟨q, k1, k2⟩ := hcell i u hu
      have hq : q = s := by
        have hlt : i < 3 := by simpa using (List.getElem?_eq_some_iff.1 k1).1
        match i, hlt with
        | 0, _ => simpa using k1.symm
        | 1, _ => simpa using k1.symm
        | 2, _ => simpa using k1.symm
      subst hq
      obtain ⟨o1, o2⟩ := cell_slice hs k2
      obtain ⟨n, y, hy⟩ := hfld i f hf
      rw [hft, hfo, hsc] at hy
      exact ⟨o1, _, _, fieldTrod o2 (by rw [← hd]; exact hy)⟩
    obtain ⟨a1, _, _, a2⟩ := one 0 u0 f0 rfl rfl h0.1 h0.2 rfl
    obtain ⟨b1, _, _, b2⟩ := one 1 u1 f1 rfl rfl h1.1 h1.2 rfl
    obtain ⟨c1, _, _, c2⟩ := one 2 u2 f2 rfl rfl h2.1 h2.2 rfl
    obtain ⟨H1, μ1, a, e1, k1, l1⟩ := arg_f32s hs he hec a1 a2 hno hr
    obtain ⟨H2, μ2, b, e2, k2, l2⟩ := arg_f32s hs he hec b1 b2 e1.no e1.hr
    obtain ⟨H3, μ3, c, e3, k3, l3⟩ := arg_f32s hs he hec c1 c2 e2.no e2.hr
    have hv := VRs.of3 (e3.vr _ _ (e2.vr _ _ k1)) (e3.vr _ _ k2) k3
    exact ⟨H3, μ3, a, b, c, (e1.trans e2).trans e3, .agg _ _ hv.1 hv.2, e3.sl (e2.sl l1), e3.sl l2, l3⟩

end Go.Proofs.Ytbhmllcnfdndhaa.AM
