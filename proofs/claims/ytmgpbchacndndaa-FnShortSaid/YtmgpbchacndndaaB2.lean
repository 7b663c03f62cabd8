import Derived.Test.YtmgpbchacndndaaB1
set_option linter.unusedSimpArgs false
set_option linter.unusedVariables false
namespace Go.Proofs.Ytmgpbchacndndaa.AM
def wantA (ops : Array Oper) (env : Env) (o : Oper) : Option Bool :=
  match o.guard with
  | none => some true
  | some (j, want) =>
    match (ops[j]?).bind (·.dst) with
    | some d =>
      match env[d]? with
      | some (.bool b) => some (b == want)
      | some .undef => some false
      | _ => none
    | none => none
section
variable {P : Program} {O : A0_} {H H' : Heap} {μ : Mem} {w : World}
theorem Nw_ {ops : Array Oper} {env : Env} {a : Act} {o : Oper} {b : Bool} (he : ER H μ env a) (h : wantA ops env o = some b) : Region.wanted o (yielded ops a.tmps) = b := by
  unfold wantA at h
  unfold Region.wanted
  split at h
  · rename_i hg
    rw [hg]; cases h; rfl
  · rename_i j want hg
    rw [hg]
    simp only
    unfold yielded
    split at h
    · rename_i d hd
      rw [hd]
      simp only [Option.bind_some]
      have get : ∀ c, env[d]? = some c → ∃ v, a.tmps[d]? = some v ∧ VR H μ c v := fun c hc => by
        have hlt : d < a.tmps.size := by rw [← he.2.1]; exact (List.getElem?_eq_some_iff.1 hc).1
        exact ⟨_, Array.getElem?_eq_getElem hlt, he.2.2 d c _ hc (Array.getElem?_eq_getElem hlt)⟩
      split at h
      · rename_i t ht
        obtain ⟨v, h1, h2⟩ := get _ ht
        obtain rfl := h2.bool_inv
        rw [h1]
        cases h
        cases t <;> cases want <;> rfl
      · rename_i ht
        obtain ⟨v, h1, h2⟩ := get _ ht
        cases h2
        rw [h1]
        cases h
        cases want <;> rfl
      · cases h
    · cases h
mutual
def AV.ren (σ : Nat → Nat) : AV → AV
  | .ptr r => .ptr ⟨σ r.id, r.off, r.ver⟩
  | .slc r n => .slc ⟨σ r.id, r.off, r.ver⟩ n
  | .fn f cs => .fn f (AVs.ren σ cs)
  | .agg cs => .agg (AVs.ren σ cs)
  | .tup cs => .tup (AVs.ren σ cs)
  | .top => .top
  | .undef => .undef
  | .bool b => .bool b
  | .int k n => .int k n
  | .flt k x => .flt k x
  | .str s => .str s
  | .nilptr => .nilptr
  | .nilfn => .nilfn
  | .nilslc => .nilslc
def AVs.ren (σ : Nat → Nat) : List AV → List AV
  | [] => []
  | c :: cs => c.ren σ :: AVs.ren σ cs
end
mutual
def AV.within (n : Nat) : AV → Bool
  | .ptr r => decide (r.id < n)
  | .slc r _ => decide (r.id < n)
  | .fn _ cs => AVs.within n cs
  | .agg cs => AVs.within n cs
  | .tup cs => AVs.within n cs
  | _ => true
def AVs.within (n : Nat) : List AV → Bool
  | [] => true
  | c :: cs => c.within n && AVs.within n cs
end
theorem AVs.ren_eq (σ : Nat → Nat) (cs : List AV) : AVs.ren σ cs = cs.map (·.ren σ) := by
  induction cs with
  | nil => rfl
  | cons c cs ih => simp [AVs.ren, ih]
theorem AVs.within_eq (n : Nat) (cs : List AV) : AVs.within n cs = cs.all (·.within n) := by
  induction cs with
  | nil => rfl
  | cons c cs ih => simp [AVs.within, ih]
def Wk1 (n : Nat) (σ : Nat → Nat) (x y : AV) : Prop := x = .top ∨ (y = x.ren σ ∧ x.within n = true)
structure WkH (nb : Nat) (σ : Nat → Nat) (H H' : Heap) : Prop where
  base : ∀ i, i < nb → σ i = i
  len : nb ≤ H.length
  inj : ∀ i j, i < H.length → j < H.length → σ i = σ j → i = j
  blk : ∀ (i : Nat) (B : Blk), H[i]? = some B → ∃ B', H'[σ i]? = some B' ∧ B'.own = B.own ∧ B'.sz = B.sz ∧ B'.cells.length = B.cells.length ∧
    (∀ (j : Nat) (c c' : AV), B.cells[j]? = some c → B'.cells[j]? = some c' → Wk1 H.length σ c c') ∧ (B.flat = true → B'.flat = true ∧ B.cells = B'.cells)
theorem VR.unren {H H' : Heap} {μ : Mem} {σ : Nat → Nat} (hblk : ∀ (i : Nat), i < H.length → ∃ B B', H[i]? = some B ∧ H'[σ i]? = some B' ∧ B'.own = B.own ∧ B'.sz = B.sz ∧ B'.cells.length = B.cells.length)
    {y : AV} {v : Value} (h : VR H' μ y v) : ∀ x : AV, y = x.ren σ → x.within H.length = true → VR H ⟨fun i => μ.blk (σ i), fun i => μ.off (σ i), fun i => μ.phys (σ i)⟩ x v := by
  have lists : ∀ (cs : List AV) (vs : Array Value) (cs' : List AV), cs = AVs.ren σ cs' → AVs.within H.length cs' = true → cs.length = vs.size →
      (∀ (i : Nat) (c : AV) (v : Value), cs[i]? = some c → vs[i]? = some v → ∀ x : AV, c = x.ren σ → x.within H.length = true → VR H ⟨fun i => μ.blk (σ i), fun i => μ.off (σ i), fun i => μ.phys (σ i)⟩ x v) →
      cs'.length = vs.size ∧ ∀ (i : Nat) (c : AV) (v : Value), cs'[i]? = some c → vs[i]? = some v → VR H ⟨fun i => μ.blk (σ i), fun i => μ.off (σ i), fun i => μ.phys (σ i)⟩ c v := by
    intro cs vs cs' he hb hl ih
    rw [AVs.ren_eq] at he
    rw [AVs.within_eq] at hb
    subst he
    refine ⟨by simpa using hl, fun i c v hc hv => ih i (c.ren σ) v (by rw [List.getElem?_map, hc]; rfl) hv c rfl (List.all_eq_true.1 hb c (List.mem_of_getElem? hc))⟩
  induction h with
  | top v => intro x hx _; cases x <;> simp [AV.ren] at hx; exact .top v
  | undef => intro x hx _; cases x <;> simp [AV.ren] at hx; exact .undef
  | bool b => intro x hx _; cases x <;> simp [AV.ren] at hx; subst hx; exact .bool b
  | int k n => intro x hx _; cases x <;> simp [AV.ren] at hx; obtain ⟨rfl, rfl⟩ := hx; exact .int k n
  | flt k b => intro x hx _; cases x <;> simp [AV.ren] at hx; obtain ⟨rfl, rfl⟩ := hx; exact .flt _ b
  | str s => intro x hx _; cases x <;> simp [AV.ren] at hx; subst hx; exact .str s
  | nilptr => intro x hx _; cases x <;> simp [AV.ren] at hx; exact .nilptr
  | nilfn => intro x hx _; cases x <;> simp [AV.ren] at hx; exact .nilfn
  | nilslc => intro x hx _; cases x <;> simp [AV.ren] at hx; exact .nilslc
  | ptr r v B hB hv h =>
    intro x hx hb
    cases x <;> simp [AV.ren] at hx
    rename_i r'
    subst hx
    simp only [AV.within, decide_eq_true_eq] at hb
    obtain ⟨B0, B1, h1, h2, h3, h4, h5⟩ := hblk _ hb
    simp only at hB hv h
    rw [h2] at hB; cases hB
    exact .ptr r' v B0 h1 (by omega) fun he => h (by omega)
  | slc r n v B hB hv h =>
    intro x hx hb
    cases x <;> simp [AV.ren] at hx
    rename_i r' n'
    obtain ⟨rfl, rfl⟩ := hx
    simp only [AV.within, decide_eq_true_eq] at hb
    obtain ⟨B0, B1, h1, h2, h3, h4, h5⟩ := hblk _ hb
    simp only at hB hv h
    rw [h2] at hB; cases hB
    refine .slc r' _ v B0 h1 (by omega) fun he => ?_
    obtain ⟨k1, k2⟩ := h (by omega)
    unfold SlcOk
    rw [← h4, ← h5]
    exact ⟨k1, k2⟩
  | fn f cs vs hl h ih =>
    intro x hx hb
    cases x <;> simp [AV.ren] at hx
    obtain ⟨rfl, hx⟩ := hx
    obtain ⟨g1, g2⟩ := lists cs vs _ hx hb hl ih
    exact .fn _ _ vs g1 g2
  | agg cs vs hl h ih =>
    intro x hx hb
    cases x <;> simp [AV.ren] at hx
    obtain ⟨g1, g2⟩ := lists cs vs _ hx hb hl ih
    exact .agg _ vs g1 g2
  | tup cs vs hl h ih =>
    intro x hx hb
    cases x <;> simp [AV.ren] at hx
    obtain ⟨g1, g2⟩ := lists cs vs _ hx hb hl ih
    exact .tup _ vs g1 g2
theorem VR.wk {nb : Nat} {σ : Nat → Nat} (hw : WkH nb σ H H') {x y : AV} {v : Value} (hx : Wk1 H.length σ x y) (h : VR H' μ y v) :
    VR H ⟨fun i => μ.blk (σ i), fun i => μ.off (σ i), fun i => μ.phys (σ i)⟩ x v := by
  rcases hx with rfl | ⟨h1, h2⟩
  · exact .top v
  · refine h.unren (fun i hi => ?_) x h1 h2
    obtain ⟨B', g1, g2, g3, g4, _⟩ := hw.blk i _ (List.getElem?_eq_getElem hi)
    exact ⟨_, B', List.getElem?_eq_getElem hi, g1, g2, g3, g4⟩
theorem HR.wk {nb : Nat} {σ : Nat → Nat} (hw : WkH nb σ H H') (hr : HR H' μ w) : HR H ⟨fun i => μ.blk (σ i), fun i => μ.off (σ i), fun i => μ.phys (σ i)⟩ w where
  cells := fun i B hB => by
    obtain ⟨B', g1, g2, g3, g4, g5, g6⟩ := hw.blk i B hB
    obtain ⟨cs, e, fr, h1, h2, h3, h4, h5⟩ := hr.cells _ B' g1
    refine ⟨cs, e, fr, h1, h2, by show B.cells.length ≤ μ.phys (σ i); omega, fun j c hc => ?_, by rw [← g2]; exact h5⟩
    have hlt : j < B'.cells.length := by rw [g4]; exact (List.getElem?_eq_some_iff.1 hc).1
    obtain ⟨v, k1, k2⟩ := h4 j _ (List.getElem?_eq_getElem hlt)
    exact ⟨v, k1, k2.wk hw (g5 j c _ hc (List.getElem?_eq_getElem hlt))⟩
  apart := fun i j Bi Bj hi hj ho hij => by
    obtain ⟨Bi', g1, g2, _⟩ := hw.blk i Bi hi
    obtain ⟨Bj', k1, _⟩ := hw.blk j Bj hj
    exact hr.apart _ _ Bi' Bj' g1 k1 (g2.trans ho) fun he => hij (hw.inj i j (List.getElem?_eq_some_iff.1 hi).1 (List.getElem?_eq_some_iff.1 hj).1 he)
  flat := fun i B hB hf c hc => by
    obtain ⟨B', g1, g2, g3, g4, g5, g6⟩ := hw.blk i B hB
    obtain ⟨f1, f2⟩ := g6 hf
    exact hr.flat _ B' g1 f1 c (f2 ▸ hc)
theorem Adv.wk {nb : Nat} {σ : Nat → Nat} {H0 : Heap} {μ0 : Mem} {w0 : World} (hn : H0.length ≤ nb) (hw : WkH nb σ H H') (ha : Adv H0 μ0 w0 H' μ w) :
    Adv H0 μ0 w0 H ⟨fun i => μ.blk (σ i), fun i => μ.off (σ i), fun i => μ.phys (σ i)⟩ w where
  size := ha.size
  os := ha.os
  tape := ha.tape
  output := ha.output
  block := ha.block
  own := fun i B hB ho => by
    obtain ⟨B', g1, g2, _⟩ := hw.blk i B hB
    exact ha.own _ B' g1 (g2.trans ho)
  evo := fun i B hB => by
    have hi : i < H0.length := (List.getElem?_eq_some_iff.1 hB).1
    have hlt : i < H.length := by have := hw.len; omega
    obtain ⟨B', g1, g2, g3, g4, _⟩ := hw.blk i _ (List.getElem?_eq_getElem hlt)
    rw [hw.base i (by omega)] at g1
    obtain ⟨B2, e1, e2, e3, e4, e5⟩ := ha.evo i B hB
    rw [g1] at e1; cases e1
    refine ⟨_, List.getElem?_eq_getElem hlt, g2.symm.trans e2, g3.symm.trans e3, by omega, fun hl => ?_⟩
    simp only [hw.base i (show i < nb by omega)]
    exact e5 (by omega)
end
end Go.Proofs.Ytmgpbchacndndaa.AM
