import Derived.Test.YtmgpbchacndndaaA1
set_option linter.unusedSimpArgs false
set_option linter.unusedVariables false
namespace Go.Proofs.Ytmgpbchacndndaa.AM
theorem HR.lt {H : Heap} {μ : Mem} {w : World} (h : HR H μ w) {id : Nat} {B : Blk} (hB : H[id]? = some B) : μ.blk id < w.heap.size := by
  obtain ⟨cs, e, fr, h1, _⟩ := h.cells id B hB
  exact (Array.getElem?_eq_some_iff.1 h1).1
theorem HR.upd {H : Heap} {μ μ' : Mem} {w w' : World} (h : HR H μ w) {id : Nat} {B B' : Blk} (hB : H[id]? = some B) (ho : B.own = true) (ho' : B'.own = true)
    (hsz : B'.sz = B.sz) (hlen : B.cells.length ≤ B'.cells.length)
    (hμ : ∀ j, j ≠ id → μ'.blk j = μ.blk j ∧ μ'.off j = μ.off j ∧ μ'.phys j = μ.phys j) (hoff : μ'.off id = 0)
    (hblk : μ'.blk id = μ.blk id ∨ w.heap.size ≤ μ'.blk id)
    (hsame : B'.cells.length = B.cells.length → μ'.blk id = μ.blk id ∧ μ'.phys id = μ.phys id)
    (cs : Array Value) (e : TypeId) {fr : Nat × Nat} (hw : w'.heap[μ'.blk id]? = some (.cells cs e fr)) (hcs : cs.size = μ'.phys id) (hfit : B'.cells.length ≤ cs.size)
    (hrest : ∀ b : Nat, b < w.heap.size → b ≠ μ.blk id → w'.heap[b]? = w.heap[b]?) (hsize : w.heap.size ≤ w'.heap.size)
    (hos : w'.os = w.os) (htape : w'.tape = w.tape) (hout : w'.output = w.output)
    (hcells : ∀ (i : Nat) (c : AV), B'.cells[i]? = some c → ∃ v, cs[i]? = some v ∧ VR H μ c v)
    (hflat : B'.flat = true → ∀ c ∈ B'.cells, c.isFlat = true) (hfr : Fz fr cs.size := by first | exact Or.inl rfl | assumption) :
    HR (H.set id B') μ' w' ∧ Adv H μ w (H.set id B') μ' w' := by
  have hid : id < H.length := (List.getElem?_eq_some_iff.1 hB).1
  have hget : ∀ j, (H.set id B')[j]? = if id = j then some B' else H[j]? := fun j => by
    rw [List.getElem?_set]; by_cases hj : id = j
    · subst hj; simp [hid]
    · simp [hj]
  have hadv : Adv H μ w (H.set id B') μ' w' := by
    refine ⟨hsize, hos, htape, hout, fun b hb hn => hrest b hb fun he => hn id B hB ho he.symm, fun j Bj hj hoj => ?_, fun j Bj hj => ?_⟩
    · rw [hget] at hj
      by_cases hji : id = j
      · subst hji
        rcases hblk with h1 | h1
        · exact .inr ⟨id, B, hB, ho, h1.symm⟩
        · exact .inl h1
      · rw [if_neg hji] at hj
        exact .inr ⟨j, Bj, hj, hoj, (hμ j (fun e => hji e.symm)).1.symm⟩
    · rw [hget]
      by_cases hji : id = j
      · subst hji
        rw [if_pos rfl]
        rw [hB] at hj; cases hj
        refine ⟨B', rfl, ho'.trans ho.symm, hsz, hlen, fun hl => ?_⟩
        obtain ⟨e1, e2⟩ := hsame hl
        obtain ⟨_, _, _, _, _, _, _, k5⟩ := h.cells id B hB
        exact ⟨e1, hoff.trans (k5 ho).1.symm, e2⟩
      · rw [if_neg hji]
        exact ⟨Bj, hj, rfl, rfl, Nat.le_refl _, fun _ => hμ j (fun e => hji e.symm)⟩
  refine ⟨⟨fun j Bj hj => ?_, fun i j Bi Bj hi hj hoi hij => ?_, fun j Bj hj hf => ?_⟩, hadv⟩
  · rw [hget] at hj
    by_cases hji : id = j
    · subst hji
      rw [if_pos rfl] at hj; cases hj
      refine ⟨cs, e, fr, hw, by rw [hoff]; omega, by omega, fun i c hc => ?_, fun _ => ⟨hoff, hfr⟩⟩
      obtain ⟨v, h1, h2⟩ := hcells i c hc
      exact ⟨v, by rw [hoff, Nat.zero_add]; exact h1, h2.adv hadv⟩
    · rw [if_neg hji] at hj
      obtain ⟨cs', e', fr, k1, k2, k3, k4, k5⟩ := h.cells j Bj hj
      obtain ⟨m1, m2, m3⟩ := hμ j (fun e => hji e.symm)
      refine ⟨cs', e', fr, ?_, by rw [m2, m3]; exact k2, by rw [m3]; exact k3, fun i c hc => ?_, by rw [m2]; exact k5⟩
      · rw [m1, hrest _ (h.lt hj) (Ne.symm (h.apart id j B Bj hB hj ho hji))]; exact k1
      · obtain ⟨v, h1, h2⟩ := k4 i c hc
        exact ⟨v, by rw [m2]; exact h1, h2.adv hadv⟩
  · rw [hget] at hi hj
    by_cases hii : id = i
    · subst hii
      rw [if_neg hij] at hj
      rw [(hμ j (Ne.symm hij)).1]
      rcases hblk with h1 | h1
      · rw [h1]; exact h.apart id j B Bj hB hj ho hij
      · have := h.lt hj; omega
    · rw [if_neg hii] at hi
      rw [(hμ i (Ne.symm hii)).1]
      by_cases hji : id = j
      · subst hji
        rcases hblk with h1 | h1
        · rw [h1]; exact h.apart i id Bi B hi hB hoi hij
        · have := h.lt hi; omega
      · rw [if_neg hji] at hj
        rw [(hμ j (Ne.symm hji)).1]
        exact h.apart i j Bi Bj hi hj hoi hij
  · rw [hget] at hj
    by_cases hji : id = j
    · subst hji; rw [if_pos rfl] at hj; cases hj; exact hflat hf
    · rw [if_neg hji] at hj; exact h.flat j Bj hj hf
theorem HR.push {H : Heap} {μ μ' : Mem} {w w' : World} (h : HR H μ w) {B' : Blk}
    (hμ : ∀ j, j ≠ H.length → μ'.blk j = μ.blk j ∧ μ'.off j = μ.off j ∧ μ'.phys j = μ.phys j) (hoff : μ'.off H.length = 0)
    (hblk : w.heap.size ≤ μ'.blk H.length)
    (cs : Array Value) (e : TypeId) {fr : Nat × Nat} (hw : w'.heap[μ'.blk H.length]? = some (.cells cs e fr)) (hcs : cs.size = μ'.phys H.length) (hfit : B'.cells.length ≤ cs.size)
    (hrest : ∀ b : Nat, b < w.heap.size → w'.heap[b]? = w.heap[b]?) (hsize : w.heap.size ≤ w'.heap.size)
    (hos : w'.os = w.os) (htape : w'.tape = w.tape) (hout : w'.output = w.output)
    (hcells : ∀ (i : Nat) (c : AV), B'.cells[i]? = some c → ∃ v, cs[i]? = some v ∧ VR H μ c v)
    (hflat : B'.flat = true → ∀ c ∈ B'.cells, c.isFlat = true) (hfr : Fz fr cs.size := by first | exact Or.inl rfl | assumption) :
    HR (H ++ [B']) μ' w' ∧ Adv H μ w (H ++ [B']) μ' w' := by
  have hget : ∀ j Bj, (H ++ [B'])[j]? = some Bj → (H[j]? = some Bj ∧ j ≠ H.length) ∨ (j = H.length ∧ Bj = B') := fun j Bj hj => by
    rw [List.getElem?_append] at hj
    split at hj
    · rename_i hlt; exact .inl ⟨hj, by omega⟩
    · rename_i hge
      by_cases he : j = H.length
      · subst he; simp at hj; exact .inr ⟨rfl, hj.symm⟩
      · rw [List.getElem?_eq_none (by simp; omega)] at hj; cases hj
  have hold : ∀ (j : Nat) Bj, H[j]? = some Bj → (H ++ [B'])[j]? = some Bj ∧ j ≠ H.length := fun j Bj hj => by
    have := (List.getElem?_eq_some_iff.1 hj).1
    exact ⟨by rw [List.getElem?_append_left this]; exact hj, by omega⟩
  have hadv : Adv H μ w (H ++ [B']) μ' w' := by
    refine ⟨hsize, hos, htape, hout, fun b hb _ => hrest b hb, fun j Bj hj hoj => ?_, fun j Bj hj => ?_⟩
    · rcases hget j Bj hj with ⟨h1, h2⟩ | ⟨rfl, rfl⟩
      · exact .inr ⟨j, Bj, h1, hoj, (hμ j h2).1.symm⟩
      · exact .inl hblk
    · obtain ⟨h1, h2⟩ := hold j Bj hj
      exact ⟨Bj, h1, rfl, rfl, Nat.le_refl _, fun _ => hμ j h2⟩
  refine ⟨⟨fun j Bj hj => ?_, fun i j Bi Bj hi hj hoi hij => ?_, fun j Bj hj hf => ?_⟩, hadv⟩
  · rcases hget j Bj hj with ⟨h1, h2⟩ | ⟨rfl, rfl⟩
    · obtain ⟨cs', e', fr, k1, k2, k3, k4, k5⟩ := h.cells j Bj h1
      obtain ⟨m1, m2, m3⟩ := hμ j h2
      refine ⟨cs', e', fr, by rw [m1, hrest _ (h.lt h1)]; exact k1, by rw [m2, m3]; exact k2, by rw [m3]; exact k3, fun i c hc => ?_, by rw [m2]; exact k5⟩
      obtain ⟨v, g1, g2⟩ := k4 i c hc
      exact ⟨v, by rw [m2]; exact g1, g2.adv hadv⟩
    · refine ⟨cs, e, fr, hw, by rw [hoff]; omega, by omega, fun i c hc => ?_, fun _ => ⟨hoff, hfr⟩⟩
      obtain ⟨v, h1, h2⟩ := hcells i c hc
      exact ⟨v, by rw [hoff, Nat.zero_add]; exact h1, h2.adv hadv⟩
  · rcases hget i Bi hi with ⟨h1, h2⟩ | ⟨rfl, rfl⟩
    · rcases hget j Bj hj with ⟨g1, g2⟩ | ⟨rfl, rfl⟩
      · rw [(hμ i h2).1, (hμ j g2).1]; exact h.apart i j Bi Bj h1 g1 hoi hij
      · rw [(hμ i h2).1]; have := h.lt h1; omega
    · rcases hget j Bj hj with ⟨g1, g2⟩ | ⟨rfl, rfl⟩
      · rw [(hμ j g2).1]; have := h.lt g1; omega
      · exact absurd rfl hij
  · rcases hget j Bj hj with ⟨h1, h2⟩ | ⟨rfl, rfl⟩
    · exact h.flat j Bj h1 hf
    · exact hflat hf
def Mem.at (μ : Mem) (id b p : Nat) : Mem :=
  { blk := fun i => if i = id then b else μ.blk i, off := fun i => if i = id then 0 else μ.off i, phys := fun i => if i = id then p else μ.phys i }
theorem HR.new {H : Heap} {μ : Mem} {w w₁ : World} (h : HR H μ w) (B' : Blk) (cs : Array Value) (e : TypeId)
    (hheap : w₁.heap = w.heap) (hos : w₁.os = w.os) (htape : w₁.tape = w.tape) (hout : w₁.output = w.output)
    (hfit : B'.cells.length ≤ cs.size)
    (hcells : ∀ (i : Nat) (c : AV), B'.cells[i]? = some c → ∃ v, cs[i]? = some v ∧ VR H μ c v)
    (hflat : B'.flat = true → ∀ c ∈ B'.cells, c.isFlat = true) :
    HR (H ++ [B']) (μ.at H.length w.heap.size cs.size) (w₁.alloc (.cells cs e)) ∧ Adv H μ w (H ++ [B']) (μ.at H.length w.heap.size cs.size) (w₁.alloc (.cells cs e)) := by
  refine h.push (fun j hj => by simp [Mem.at, hj]) (by simp [Mem.at]) (by simp [Mem.at]) cs e ?_ (by simp [Mem.at]) hfit ?_ ?_ hos htape hout hcells hflat
  · simp [Mem.at, World.alloc, hheap]
  · intro b hb
    simp only [World.alloc, hheap, Array.getElem?_push]
    rw [if_neg (by omega)]
  · simp [World.alloc, hheap]
theorem HR.same {H : Heap} {μ : Mem} {w w' : World} (h : HR H μ w) (hheap : w'.heap = w.heap) (hos : w'.os = w.os) (htape : w'.tape = w.tape) (hout : w'.output = w.output) :
    HR H μ w' ∧ Adv H μ w H μ w' := by
  refine ⟨⟨fun id B hB => ?_, h.apart, h.flat⟩, ⟨by rw [hheap]; exact Nat.le_refl _, hos, htape, hout, fun b _ _ => by rw [hheap], fun id B hB ho => .inr ⟨id, B, hB, ho, rfl⟩, fun _ B hB => ⟨B, hB, rfl, rfl, Nat.le_refl _, fun _ => ⟨rfl, rfl, rfl⟩⟩⟩⟩
  rw [hheap]; exact h.cells id B hB
theorem HR.cell {H : Heap} {μ : Mem} {w : World} (h : HR H μ w) {id : Nat} {B : Blk} (hB : H[id]? = some B) {i : Nat} {c : AV} (hc : B.cells[i]? = some c) :
    ∃ v, w.cell? ⟨μ.blk id, μ.off id + i, none⟩ = some v ∧ VR H μ c v := by
  obtain ⟨cs, e, fr, h1, _, _, h4, _⟩ := h.cells id B hB
  obtain ⟨v, k1, k2⟩ := h4 i c hc
  exact ⟨v, by simp [World.cell?, h1, k1], k2⟩
end Go.Proofs.Ytmgpbchacndndaa.AM
