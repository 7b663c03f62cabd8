/- Opening the arguments of a law, by their kinds. -/
import Derived.Test.YtbnakafnaeafiaaS0
set_option linter.unusedSimpArgs false
set_option linter.unusedVariables false
namespace Go.Proofs.Ytbnakafnaeafiaa.AM
open Go Go.Proofs Go.RowKit Go.ChangeShapes Go.WideShapes Go.Deep

/-- The heap with more blocks that are only read. -/
structure Extw (w : World) (H : Heap) (μ : Mem) (H' : Heap) (μ' : Mem) : Prop where
  no : NoOwn H'
  hr : HR H' μ' w
  vr : ∀ (x : AV) (v : Value), VR H μ x v → VR H' μ' x v
  app : ∃ L, H' = H ++ L
theorem Extw.refl {w : World} {H : Heap} {μ : Mem} (hno : NoOwn H) (hr : HR H μ w) : Extw w H μ H μ := ⟨hno, hr, fun _ _ h => h, [], by simp⟩
theorem Extw.trans {w : World} {H H1 H2 : Heap} {μ μ1 μ2 : Mem} (a : Extw w H μ H1 μ1) (b : Extw w H1 μ1 H2 μ2) : Extw w H μ H2 μ2 :=
  ⟨b.no, b.hr, fun x v h => b.vr x v (a.vr x v h), by obtain ⟨L, h⟩ := a.app; obtain ⟨M, k⟩ := b.app; exact ⟨L ++ M, by rw [k, h, List.append_assoc]⟩⟩
theorem Extw.sl {α : Type} {c : Cd α} {w : World} {H H1 : Heap} {μ μ1 : Mem} (a : Extw w H μ H1 μ1) {s : AV} (h : SlA c H s) : SlA c H1 s := by
  obtain ⟨L, rfl⟩ := a.app; exact h.app L

theorem VRs.nil (H : Heap) (μ : Mem) : VRs H μ [] #[] := ⟨rfl, fun i c v h => by simp at h⟩
theorem VRs.of1 {H : Heap} {μ : Mem} {x : AV} {v : Value} (h : VR H μ x v) : VRs H μ [x] #[v] := ⟨rfl, fun i c u hc hu => by
  cases i with
  | zero => simp at hc hu; subst hc; subst hu; exact h
  | succ i => simp at hc⟩
theorem VRs.of2 {H : Heap} {μ : Mem} {x y : AV} {v u : Value} (h : VR H μ x v) (k : VR H μ y u) : VRs H μ [x, y] #[v, u] := ⟨rfl, fun i c z hc hz => by
  match i with
  | 0 => simp at hc hz; subst hc; subst hz; exact h
  | 1 => simp at hc hz; subst hc; subst hz; exact k
  | i + 2 => simp at hc⟩
theorem VRs.of3 {H : Heap} {μ : Mem} {x y z : AV} {v u t : Value} (h : VR H μ x v) (k : VR H μ y u) (l : VR H μ z t) : VRs H μ [x, y, z] #[v, u, t] := ⟨rfl, fun i c q hc hz => by
  match i with
  | 0 => simp at hc hz; subst hc; subst hz; exact h
  | 1 => simp at hc hz; subst hc; subst hz; exact k
  | 2 => simp at hc hz; subst hc; subst hz; exact l
  | i + 3 => simp at hc⟩

section
variable {HH : Type} {enc : TypeId × Value → HH} {P : Program} {W : World} {base : Nat} {H : Heap} {μ : Mem} {t e : TypeId} {v : Value} {d : DataW HH} {p : List MemPlace}

theorem okWide_slice_has (ht : P.underlying t = some (.slice e)) {a : Addr} {len cap : Nat} (h : Value.okWide P W .any base t (.slice (some a) len cap)) : len ≤ cap ∧ cap < 9223372036854775808 ∧ a.spot = none ∧ ∃ cs el fr, W.heap[a.block]? = some (.cells cs el fr) := by
  simp only [Value.okWide, ht, Cell.okWide, Cell.ok, World.has] at h
  obtain ⟨h1, hm, _, h2, row, cells, h3, _⟩ := h
  refine ⟨h1, by have : IntKind.i64.max = 9223372036854775807 := by decide
                 omega, h2, ?_⟩
  unfold World.shape? at h3
  split at h3
  · exact ⟨_, _, _, by assumption⟩
  · cases h3

/-- A slice of one-cell elements. -/
theorem arg_slice {α : Type} (c : Cd α) (ht : P.underlying t = some (.slice e)) (hce : P.cellsOf e = 1)
    (hel : ∀ (n : Nat) (u : Value) (y : DataW HH × List MemPlace), DataW.trod enc P W 0 (fun _ => true) true n e [u] = some y → CellIs c u)
    (hval : Value.okWide P W .any base t v) (htr : DataW.Trod enc P W 0 (fun _ => true) true t v d p) (hno : NoOwn H) (hr : HR H μ W) :
    ∃ H' μ' s, Extw W H μ H' μ' ∧ VR H' μ' s v ∧ SlA c H' s := by
  obtain ⟨a0, len, cap, rfl⟩ := okWide_slice ht hval
  obtain ⟨fuel, hf⟩ := htr
  rcases open_slice1 ht hce hf with ⟨hcs, _⟩ | ⟨a, len', cap', m, n, V, D, Pl, hcs, _, hl, hm, hmm, _, hx⟩
  · simp [Value.cells] at hcs
    obtain ⟨rfl, rfl, rfl⟩ := hcs
    exact ⟨H, μ, .nilslc, Extw.refl hno hr, .nilslc, ⟨0, rfl, fun _ => ⟨[], rfl, .inl ⟨rfl, c.len []⟩, by simp⟩⟩⟩
  · simp [Value.cells] at hcs
    obtain ⟨rfl, rfl, rfl⟩ := hcs
    simp only [if_true] at hmm
    subst hmm
    obtain ⟨h1, hm, h2, h3⟩ := okWide_slice_has ht hval
    obtain ⟨s, L, b, o, q, k1, k2, k3, k4⟩ := ext_slice c hr hno h2 h1 hm h3 fun i hi => ⟨V i, (hx i hi).1, hel n _ _ (hx i hi).2⟩
    exact ⟨_, _, s, ⟨hno.ext k1, k2, fun x u h => h.ext L, [L], rfl⟩, k3, k4⟩

theorem canon_lt32 {b : Nat} (h : (Lit.float .f32 b).wf = true) : canon .f32 b < 4294967296 := by
  unfold canon
  split
  · decide
  · simpa [Lit.wf] using h
theorem canon_lt64 {b : Nat} (h : (Lit.float .f64 b).wf = true) : canon .f64 b < 18446744073709551616 := by
  unfold canon
  split
  · decide
  · simpa [Lit.wf] using h
theorem lit_i64 {n : Int} (h : (Lit.int .i64 n).wf = true) : -9223372036854775808 ≤ n ∧ n < 9223372036854775808 := by
  have h1 : IntKind.i64.min = -9223372036854775808 := by decide
  have h3 : IntKind.i64.max = 9223372036854775807 := by decide
  simp [Lit.wf, h1] at h
  omega
theorem cell_float {n : Nat} {k : FloatKind} {u : Value} {y : DataW HH × List MemPlace} (he : P.underlying e = some (.float k)) (h : DataW.trod enc P W base (fun _ => true) true n e [u] = some y) : ∃ b, u = .float k b ∧ (Lit.float k b).wf = true := by
  cases n with
  | zero => simp [DataW.trod] at h
  | succ n =>
    unfold DataW.trod at h
    rw [he] at h
    split at h <;> simp_all
theorem arg_f32s (ht : P.underlying t = some (.slice e)) (he : P.underlying e = some (.float .f32)) (hce : P.cellsOf e = 1)
    (hval : Value.okWide P W .any base t v) (htr : DataW.Trod enc P W 0 (fun _ => true) true t v d p) (hno : NoOwn H) (hr : HR H μ W) :
    ∃ H' μ' s, Extw W H μ H' μ' ∧ VR H' μ' s v ∧ SlA cF H' s :=
  arg_slice cF ht hce (fun n u y h => by
    obtain ⟨b, rfl, hb⟩ := cell_float he h
    exact ⟨canon .f32 b, canon_lt32 hb, fun H μ => .flt .f32 b⟩) hval htr hno hr
theorem arg_ints (ht : P.underlying t = some (.slice e)) (he : P.underlying e = some (.int .i64)) (hce : P.cellsOf e = 1)
    (hval : Value.okWide P W .any base t v) (htr : DataW.Trod enc P W 0 (fun _ => true) true t v d p) (hno : NoOwn H) (hr : HR H μ W) :
    ∃ H' μ' s, Extw W H μ H' μ' ∧ VR H' μ' s v ∧ SlA cI H' s :=
  arg_slice cI ht hce (fun n u y h => by
    obtain ⟨b, hb, _, hw⟩ := DataW.trod_int he h
    simp at hb; subst hb
    exact ⟨b, lit_i64 hw, fun H μ => .int .i64 b⟩) hval htr hno hr
theorem arg_float {k : FloatKind} (ht : P.underlying t = some (.float k)) (hval : Value.okWide P W .any base t v) : ∃ x, ∀ (H : Heap) (μ : Mem), VR H μ (.flt k x) v := by
  obtain ⟨b, rfl⟩ := okWide_float ht hval
  exact ⟨_, fun H μ => .flt k b⟩
end
end Go.Proofs.Ytbnakafnaeafiaa.AM
