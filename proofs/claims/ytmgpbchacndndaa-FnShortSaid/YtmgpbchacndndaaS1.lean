import Derived.Test.YtmgpbchacndndaaS0
set_option linter.unusedSimpArgs false
set_option linter.unusedVariables false
namespace Go.Proofs.Ytmgpbchacndndaa.AM
open Go Go.Proofs Go.RowKit Go.ChangeShapes Go.WideShapes Go.Deep
structure Extw (w : World) (H : Heap) (μ : Mem) (H' : Heap) (μ' : Mem) : Prop where
  no : NoOwn H'
  hr : HR H' μ' w
  vr : ∀ (x : AV) (v : Value), VR H μ x v → VR H' μ' x v
  app : ∃ L, H' = H ++ L
theorem Extw.refl {w : World} {H : Heap} {μ : Mem} (hno : NoOwn H) (hr : HR H μ w) : Extw w H μ H μ := ⟨hno, hr, fun _ _ h => h, [], by simp⟩
theorem Extw.trans {w : World} {H H1 H2 : Heap} {μ μ1 μ2 : Mem} (a : Extw w H μ H1 μ1) (b : Extw w H1 μ1 H2 μ2) : Extw w H μ H2 μ2 :=
  ⟨b.no, b.hr, fun x v h => b.vr x v (a.vr x v h), by obtain ⟨L, h⟩ := a.app; obtain ⟨M, k⟩ := b.app; exact ⟨L ++ M, by rw [k, h, List.append_assoc]⟩⟩
theorem Extw.sl {α : Type} {c : Cd α} {w : World} {H H1 : Heap} {μ μ1 : Mem} (a : Extw w H μ H1 μ1) {s : AV} (h : SlA c H s) : SlA c H1 s := by
  obtain ⟨L, rfl⟩ := a.app; exact h.app L
theorem VRs.nil (H : Heap) (μ : Mem) : VRs H μ [] #[] := ⟨rfl, fun i c v h => by simp at h⟩
section
variable {HH : Type} {enc : TypeId × Value → HH} {P : Program} {W : World} {base : Nat} {H : Heap} {μ : Mem} {t e : TypeId} {v : Value} {d : DataW HH} {p : List MemPlace}
theorem Amu_ (ht : P.underlying t = some (.slice e)) {a : Addr} {len cap : Nat} (h : Value.okWide P W .any base t (.slice (some a) len cap)) : len ≤ cap ∧ cap < 9223372036854775808 ∧ a.spot = none ∧ ∃ cs el fr, W.heap[a.block]? = some (.cells cs el fr) := by
  simp only [Value.okWide, ht, Cell.okWide, Cell.ok, World.has] at h
  obtain ⟨h1, hm, _, h2, row, cells, h3, _⟩ := h
  refine ⟨h1, by have : IntKind.i64.max = 9223372036854775807 := by decide
                 omega, h2, ?_⟩
  unfold World.shape? at h3
  split at h3
  · exact ⟨_, _, _, by assumption⟩
  · cases h3
theorem Akj_ {α : Type} (c : Cd α) (ht : P.underlying t = some (.slice e)) (hce : P.cellsOf e = 1)
    (hel : ∀ (n : Nat) (u : Value) (y : DataW HH × List MemPlace), DataW.trod enc P W 0 (fun _ => true) true n e [u] = some y → Le_ c u)
    (hval : Value.okWide P W .any base t v) (htr : DataW.Trod enc P W 0 (fun _ => true) true t v d p) (hno : NoOwn H) (hr : HR H μ W) :
    ∃ H' μ' s, Extw W H μ H' μ' ∧ VR H' μ' s v ∧ SlA c H' s := by
  obtain ⟨a0, len, cap, rfl⟩ := okWide_slice ht hval
  obtain ⟨fuel, hf⟩ := htr
  rcases open_slice1 ht hce hf with ⟨hcs, _⟩ | ⟨a, len', cap', m, n, V, D, Pl, hcs, _, hl, hm, hmm, _, hx⟩
  · simp [Value.cells] at hcs
    obtain ⟨rfl, rfl, rfl⟩ := hcs
    exact ⟨H, μ, .nilslc, Extw.refl hno hr, .nilslc, ⟨0, rfl, fun _ => ⟨[], rfl, .inl ⟨rfl, c.len []⟩, by simp⟩⟩⟩
  · simp [Value.cells] at hcs
    obtain ⟨rfl, rfl, rfl⟩ := hcs
    simp only [if_true] at hmm
    subst hmm
    obtain ⟨h1, hm, h2, h3⟩ := Amu_ ht hval
    obtain ⟨s, L, b, o, q, k1, k2, k3, k4⟩ := Ajz_ c hr hno h2 h1 hm h3 fun i hi => ⟨V i, (hx i hi).1, hel n _ _ (hx i hi).2⟩
    exact ⟨_, _, s, ⟨hno.ext k1, k2, fun x u h => h.ext L, [L], rfl⟩, k3, k4⟩
end
end Go.Proofs.Ytmgpbchacndndaa.AM
