import Derived.Test.YtmgpbchacndndaaRows
import Derived.ProofKit
import Derived.Carry
import Derived.Deep.Slices
import Derived.Laws.Cover2
import Derived.Test.YtmgpbchacndndaaB5
import Derived.Test.YtmgpbchacndndaaD3
set_option linter.unusedSimpArgs false
set_option linter.unusedVariables false
namespace Go.Proofs.Ytmgpbchacndndaa.AM
open Go Go.Proofs Go.RowKit Go.ChangeShapes Go.WideShapes
def NoOwn (H : Heap) : Prop := ∀ (i : Nat) (B : Blk), H[i]? = some B → B.own = false
theorem Alh_ {P : Program} {f : FuncId} {avs : List AV} {H H' : Heap} {μ : Mem} {W : World} {args : Array Value} (h : FnOk P f avs H (.bool true) H') (hr : HR H μ W) (hv : VRs H μ avs args) (hno : NoOwn H)
    (hc : (callFunc f args).run P W = .ok (.enter f args) W) :
    Calls P f args W fun e W' => e = .returned (.bool true) ∧ Below W.heap.size W W' := by
  rcases h μ W args hr hv with ⟨_, h⟩ | ⟨v, w', μ', h, _⟩
  · refine h.mono fun e W' ⟨v, μ', he, h1, h2, h3⟩ => ?_
    refine ⟨by rw [he, h1.bool_inv], ⟨h3.os, h3.tape, h3.output, h3.size, fun k hk => h3.block k hk fun id B hB ho => ?_⟩⟩
    rw [hno id B hB] at ho; cases ho
  · rw [hc] at h; cases h
theorem Amv_ {HH : Type} {enc : TypeId × Value → HH} {P : Program} {f : Func} {s : ChangeSpec} {W W' : World} {args : Array Value} {ds : List (DataW HH)} {before : List MemPlace} {tb : TypeId}
    (hl : laidOutB P = true) (hk : ∀ t ∈ f.params.toList, P.readableRec t = true ∧ t < P.types.size) (hvars : s.vars = []) (hs : s.fn HH (ds ++ []) = { results := [.lit (.bool true)], args := ds })
    (hrt : f.resultTypes = #[tb]) (hb4 : P.underlying tb = some .bool) (hW : DataW.Whole enc P f.params.toList s.vars false W args.toList ds [] before) (hb : Below W.heap.size W W') :
    s.post enc P f false true false false W args (.bool true) W' := by
  obtain ⟨p, q, hA, hV, rfl, hfz, hnd⟩ := hW
  have hW : DataW.Whole enc P f.params.toList s.vars false W args.toList ds [] (p ++ q) := ⟨p, q, hA, hV, rfl, hfz, hnd⟩
  have hstay : ∀ {ts : List TypeId} {vs : List Value} {ds : List (DataW HH)} {ps : List MemPlace}, (∀ t ∈ ts, P.readableRec t = true ∧ t < P.types.size) → (∀ x ∈ ps, x.block < W.heap.size) →
      DataW.TrodAll enc P W 0 (fun _ => true) true ts vs ds ps → DataW.TrodAll enc P W' 0 (fun b => decide (b < W.heap.size)) true ts vs ds ps := by
    intro ts
    induction ts with
    | nil =>
      intro vs ds ps _ _ h
      obtain ⟨rfl, rfl, rfl⟩ := trodAll_nil h
      exact rfl
    | cons t ts ih =>
      intro vs ds ps hk hlt h
      match vs, ds, h with
      | v :: vs, d :: ds, ⟨p1, q1, h1, h2, e⟩ =>
        refine ⟨p1, q1, Below.trod hl (hk t (by simp)).1 (hk t (by simp)).2 h1 hb (fun x hx => hlt x (by rw [e]; exact List.mem_append_left _ hx)), ih (fun t ht => hk t (by simp [ht])) (fun x hx => hlt x (by rw [e]; exact List.mem_append_right _ hx)) h2, e⟩
  refine ⟨ds, [], p ++ q, [], p, [], hW, ?_, ?_, ?_, hb.frame _, fun h => by cases h⟩
  · rw [hs, hrt]
    exact trodAll_mk1 (p := []) ⟨1, by simp [DataW.trod, Value.cells, hb4]⟩
  · rw [hs]
    exact hstay hk (fun x hx => hW.lt x (List.mem_append_left _ hx)) hA
  · rw [hs, hvars]
    exact rfl
def Mem.put (μ : Mem) (i b o p : Nat) : Mem := ⟨fun j => if j = i then b else μ.blk j, fun j => if j = i then o else μ.off j, fun j => if j = i then p else μ.phys j⟩
theorem VR.ext {H : Heap} {μ : Mem} {b o p : Nat} (L : Blk) {x : AV} {v : Value} (h : VR H μ x v) : VR (H ++ [L]) (μ.put H.length b o p) x v := by
  induction h with
  | top v => exact .top v
  | undef => exact .undef
  | bool b => exact .bool b
  | int k n => exact .int k n
  | flt k b => exact .flt k b
  | str s => exact .str s
  | nilptr => exact .nilptr
  | nilfn => exact .nilfn
  | nilslc => exact .nilslc
  | ptr r v B hB hv h =>
    have hlt : r.id < H.length := (List.getElem?_eq_some_iff.1 hB).1
    refine .ptr r v B (by rw [List.getElem?_append_left hlt]; exact hB) hv fun he => ?_
    simp only [Mem.put, show r.id ≠ H.length by omega, if_false]; exact h he
  | slc r n v B hB hv h =>
    have hlt : r.id < H.length := (List.getElem?_eq_some_iff.1 hB).1
    refine .slc r n v B (by rw [List.getElem?_append_left hlt]; exact hB) hv fun he => ?_
    simp only [SlcOk, Mem.put, show r.id ≠ H.length by omega, if_false]; exact h he
  | fn f cs vs hl h ih => exact .fn f cs vs hl fun i c v hc hv => ih i c v hc hv
  | agg cs vs hl h ih => exact .agg cs vs hl fun i c v hc hv => ih i c v hc hv
  | tup cs vs hl h ih => exact .tup cs vs hl fun i c v hc hv => ih i c v hc hv
theorem HR.ext {H : Heap} {μ : Mem} {w : World} (hr : HR H μ w) (hno : NoOwn H) {b o p : Nat} {cs : Array Value} {e : TypeId} {fr : Nat × Nat} (hw : w.heap[b]? = some (.cells cs e fr)) (hsz : cs.size = o + p) (L : Blk) (hl : L.cells.length ≤ p) (hown : L.own = false)
    (hc : ∀ (i : Nat) (c : AV), L.cells[i]? = some c → ∃ v, cs[o + i]? = some v ∧ VR H μ c v) (hf : L.flat = true → ∀ c ∈ L.cells, c.isFlat = true) : HR (H ++ [L]) (μ.put H.length b o p) w where
  cells := by
    intro id B hB
    rw [List.getElem?_append] at hB
    split at hB
    · rename_i hlt
      obtain ⟨cs', e', fr', h1, h2, h3, h4, h5⟩ := hr.cells id B hB
      have hne : id ≠ H.length := by omega
      refine ⟨cs', e', fr', ?_, ?_, ?_, fun i c hi => ?_, fun ho => ?_⟩
      · simp only [Mem.put, hne, if_false]; exact h1
      · simp only [Mem.put, hne, if_false]; exact h2
      · simp only [Mem.put, hne, if_false]; exact h3
      · obtain ⟨v, k1, k2⟩ := h4 i c hi
        refine ⟨v, ?_, k2.ext L⟩
        simp only [Mem.put, hne, if_false]; exact k1
      · rw [hno id B hB] at ho; cases ho
    · rename_i hge
      have hid : id = H.length ∧ L = B := by
        cases hi : id - H.length with
        | zero => rw [hi] at hB; exact ⟨by omega, by simpa using hB⟩
        | succ n => rw [hi] at hB; simp at hB
      obtain ⟨rfl, rfl⟩ := hid
      refine ⟨cs, e, fr, ?_, ?_, ?_, fun i c hi => ?_, fun ho => ?_⟩
      · simp only [Mem.put, if_true]; exact hw
      · simp only [Mem.put, if_true]; exact hsz
      · simp only [Mem.put, if_true]; exact hl
      · obtain ⟨v, k1, k2⟩ := hc i c hi
        refine ⟨v, ?_, k2.ext L⟩
        simp only [Mem.put, if_true]; exact k1
      · rw [hown] at ho; cases ho
  apart := by
    intro i j Bi Bj hi hj ho
    rw [List.getElem?_append] at hi
    split at hi
    · rw [hno i Bi hi] at ho; cases ho
    · cases hk : i - H.length with
      | zero =>
        rw [hk] at hi
        have : L = Bi := by simpa using hi
        rw [← this, hown] at ho; cases ho
      | succ n => rw [hk] at hi; simp at hi
  flat := by
    intro id B hB hfl c hc
    rw [List.getElem?_append] at hB
    split at hB
    · exact hr.flat id B hB hfl c hc
    · cases hk : id - H.length with
      | zero =>
        rw [hk] at hB
        have : L = B := by simpa using hB
        subst this
        exact hf hfl c hc
      | succ n => rw [hk] at hB; simp at hB
theorem NoOwn.ext {H : Heap} (h : NoOwn H) {L : Blk} (hL : L.own = false) : NoOwn (H ++ [L]) := by
  intro i B hB
  rw [List.getElem?_append] at hB
  split at hB
  · exact h i B hB
  · cases hk : i - H.length with
    | zero => rw [hk] at hB; have : L = B := by simpa using hB
              rw [← this]; exact hL
    | succ n => rw [hk] at hB; simp at hB
theorem HR.nil (w : World) : HR [] ⟨fun _ => 0, fun _ => 0, fun _ => 0⟩ w := ⟨fun _ _ h => by simp at h, fun _ _ _ _ h => by simp at h, fun _ _ h => by simp at h⟩
structure Cd (α : Type) where mk ::
  en : α → AV
  row : List α → Row
  cells : ∀ xs, (row xs).cells = xs.map en
  len : ∀ xs, (row xs).len = xs.length
  flat : ∀ x, (en x).isFlat = true
  ok : α → Prop
def cU8 : Cd Int := ⟨.int .u8, .u8, fun _ => rfl, fun _ => rfl, fun _ => rfl, fun x => 0 ≤ x ∧ x < 256⟩
def slen (H : Heap) : AV → Option Nat
  | .nilslc => some 0
  | .slc r n => if live H r = true ∧ n < 9223372036854775808 then some n else none
  | _ => none
section
variable {P : Program} {H : Heap} {s : AV} {n : Nat}
theorem Q1_ (h : slen H s = some n) : (s = .nilslc ∧ n = 0) ∨ ∃ r, s = .slc r n ∧ live H r = true ∧ n < 9223372036854775808 := by
  unfold slen at h
  split at h
  · cases h; exact .inl ⟨rfl, rfl⟩
  · split at h
    · rename_i hk; cases h; exact .inr ⟨_, rfl, hk⟩
    · cases h
  · cases h
theorem Ajg_ (h : slen H s = some n) (L : Heap) : slen (H ++ L) s = some n := by
  rcases Q1_ h with ⟨rfl, rfl⟩ | ⟨r, rfl, hl, hn⟩
  · rfl
  · obtain ⟨B, k1, k2⟩ := Av_.1 hl
    have : live (H ++ L) r = true := Av_.2 ⟨B, by rw [List.getElem?_append_left (List.getElem?_eq_some_iff.1 k1).1]; exact k1, k2⟩
    simp [slen, this, hn]
theorem Reads.app {r : Row} (h : Reads H s r) (L : Heap) : Reads (H ++ L) s r := by
  rcases h with h | ⟨p, B, h1, h2, h3⟩
  · exact .inl h
  · exact .inr ⟨p, B, h1, by rw [List.getElem?_append_left (List.getElem?_eq_some_iff.1 h2).1]; exact h2, h3⟩
end
def SlA {α : Type} (c : Cd α) (H : Heap) (s : AV) : Prop := ∃ n, slen H s = some n ∧ (n ≤ maxN → ∃ xs : List α, xs.length = n ∧ Reads H s (c.row xs) ∧ ∀ x ∈ xs, c.ok x)
theorem SlA.app {α : Type} {c : Cd α} {H : Heap} {s : AV} (h : SlA c H s) (L : Heap) : SlA c (H ++ L) s := by
  obtain ⟨n, h1, h2⟩ := h
  exact ⟨n, Ajg_ h1 L, fun hn => by obtain ⟨xs, h3, h4, h5⟩ := h2 hn; exact ⟨xs, h3, h4.app L, h5⟩⟩
theorem FnOk.ws {P : Program} {f : FuncId} {args : List AV} {H H' : Heap} {r : AV} (h : WS H → FnOk P f args H r H') : FnOk P f args H r H' :=
  fun μ w cargs hr ha => h hr.ws μ w cargs hr ha
def Le_ {α : Type} (c : Cd α) (v : Value) : Prop := ∃ x, c.ok x ∧ ∀ (H : Heap) (μ : Mem), VR H μ (c.en x) v
theorem Yh_ {α : Type} (c : Cd α) : ∀ (l : List AV), (∀ v ∈ l, ∃ x, v = c.en x ∧ c.ok x) → ∃ ys : List α, l = ys.map c.en ∧ ∀ y ∈ ys, c.ok y
  | [], _ => ⟨[], rfl, by simp⟩
  | v :: l, h => by
    obtain ⟨x, rfl, hx⟩ := h v (by simp)
    obtain ⟨ys, rfl, hy⟩ := Yh_ c l fun v hv => h v (by simp [hv])
    exact ⟨x :: ys, rfl, by simpa using ⟨hx, hy⟩⟩
theorem Ajz_ {α : Type} (c : Cd α) {H : Heap} {μ : Mem} {w : World} (hr : HR H μ w) (hno : NoOwn H) {a : Addr} {len cap : Nat} (hspot : a.spot = none) (hlc : len ≤ cap) (hmax : cap < 9223372036854775808)
    (hblk : ∃ cs e fr, w.heap[a.block]? = some (.cells cs e fr)) (hcell : ∀ i, i < cap → ∃ v, w.cell? (a.add i) = some v ∧ Le_ c v) :
    ∃ s L b o p, L.own = false ∧ HR (H ++ [L]) (μ.put H.length b o p) w ∧ VR (H ++ [L]) (μ.put H.length b o p) s (.slice (some a) len cap) ∧ SlA c (H ++ [L]) s := by
  obtain ⟨cs, e, fr, hw⟩ := hblk
  obtain ⟨ab, ao, asp⟩ := a
  simp only at hspot hw
  subst hspot
  have hget : ∀ i, i < cap → ∃ v, cs[ao + i]? = some v ∧ Le_ c v := by
    intro i hi
    obtain ⟨v, h1, h2⟩ := hcell i hi
    refine ⟨v, ?_, h2⟩
    unfold Addr.add at h1
    by_cases h0 : i = 0
    · subst h0; simpa [World.cell?, hw] using h1
    · simpa [World.cell?, h0, hw] using h1
  by_cases hc0 : cap = 0
  · subst hc0
    have : len = 0 := by omega
    subst this
    refine ⟨.slc ⟨H.length, 0, 0⟩ 0, ⟨[], false, 1, true⟩, ab, cs.size, 0, rfl, hr.ext hno hw (by simp) _ (by simp) rfl (by simp) (by simp), ?_, ⟨0, ?_, fun _ => ⟨[], rfl, ?_⟩⟩⟩
    · refine .slc _ _ _ ⟨[], false, 1, true⟩ (by simp) (by simp) fun _ => ⟨by simp, .inr ⟨rfl, by simp, _, rfl⟩⟩
    · simp [slen, live]
    · exact ⟨.inr ⟨⟨H.length, 0, 0⟩, ⟨[], false, 1, true⟩, by rw [c.len]; rfl, by simp, by simp, rfl, by rw [c.len]; simp, by rw [c.len, c.cells]; simp, by rw [c.len]; simp⟩, by simp⟩
  · have hsz : ao + cap ≤ cs.size := by
      obtain ⟨v, h1, _⟩ := hget (cap - 1) (by omega)
      have := (Array.getElem?_eq_some_iff.1 h1).1
      omega
    obtain ⟨X, hX⟩ : ∃ X : Nat → AV, ∀ i, i < len → (∃ x, X i = c.en x ∧ c.ok x) ∧ ∃ v, cs[ao + i]? = some v ∧ ∀ (H : Heap) (μ : Mem), VR H μ (X i) v := by
      refine ⟨fun i => if h : i < cap then c.en (hget i h).choose_spec.2.choose else .top, fun i hi => ?_⟩
      have h : i < cap := by omega
      simp only [h, dif_pos]
      exact ⟨⟨_, rfl, (hget i h).choose_spec.2.choose_spec.1⟩, _, (hget i h).choose_spec.1, (hget i h).choose_spec.2.choose_spec.2⟩
    let L : Blk := ⟨(List.range len).map X, false, 1, true⟩
    have hLl : L.cells.length = len := by simp [L]
    have hLget : ∀ (i : Nat) (x : AV), L.cells[i]? = some x → i < len ∧ x = X i := by
      intro i x hx
      have hi : i < len := by have := (List.getElem?_eq_some_iff.1 hx).1; omega
      simp only [L, List.getElem?_map, List.getElem?_range hi, Option.map_some, Option.some.injEq] at hx
      exact ⟨hi, hx.symm⟩
    refine ⟨.slc ⟨H.length, 0, len⟩ len, L, ab, ao, cs.size - ao, rfl, hr.ext hno hw (by omega) L (by omega) rfl (fun i x hx => ?_) (fun _ x hx => ?_), ?_, ?_⟩
    · obtain ⟨hi, rfl⟩ := hLget i x hx
      obtain ⟨_, v, h1, h2⟩ := hX i hi
      exact ⟨v, h1, h2 _ _⟩
    · obtain ⟨i, hi⟩ := List.getElem?_of_mem hx
      obtain ⟨hlt, rfl⟩ := hLget i x hi
      obtain ⟨⟨y, hy, _⟩, _⟩ := hX i hlt
      rw [hy]; exact c.flat y
    · refine .slc _ _ _ L (by simp) (by rw [hLl]; exact Nat.le_refl _) fun _ => ⟨by simp [L], .inl ⟨cap, ?_, ?_, ?_⟩⟩
      · simp [Mem.put]
      · rw [hLl]; simp [L]; omega
      · simp [Mem.put, L]; omega
    · refine ⟨len, ?_, fun hm => ?_⟩
      · have : live (H ++ [L]) ⟨H.length, 0, len⟩ = true := Av_.2 ⟨L, by simp, hLl.symm⟩
        simp only [slen, this]
        rw [if_pos ⟨trivial, by omega⟩]
      · obtain ⟨ys, hys, hyo⟩ := Yh_ c L.cells fun x hx => by
          obtain ⟨i, hi⟩ := List.getElem?_of_mem hx
          obtain ⟨hlt, rfl⟩ := hLget i x hi
          exact (hX i hlt).1
        have hyl : ys.length = len := by rw [← hLl, hys]; simp
        refine ⟨ys, hyl, .inr ⟨⟨H.length, 0, len⟩, L, by rw [c.len, hyl], by simp, hLl.symm, rfl, by rw [c.len, hyl, hLl]; simp, ?_, by rw [c.len, hyl]; exact hm⟩, hyo⟩
        rw [List.drop_zero, c.len, hyl, List.take_of_length_le (by omega), c.cells, hys]
end Go.Proofs.Ytmgpbchacndndaa.AM
