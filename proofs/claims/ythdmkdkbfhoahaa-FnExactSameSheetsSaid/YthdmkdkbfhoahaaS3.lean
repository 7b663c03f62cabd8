/- Arguments that are slices of structs: opened down to the slices that their elements hold. -/
import Derived.Test.YthdmkdkbfhoahaaS2
import Derived.Test.YthdmkdkbfhoahaaD13
set_option linter.unusedSimpArgs false
set_option linter.unusedVariables false
namespace Go.Proofs.Ythdmkdkbfhoahaa.AM
open Go Go.Proofs Go.RowKit Go.ChangeShapes Go.WideShapes Go.Deep

/-- What a cell of an element is. -/
inductive LK where | i64 | str | f32s
def LA : LK → Heap → AV → Prop
  | .i64, _, x => ∃ n : Int, x = .int .i64 n ∧ -9223372036854775808 ≤ n ∧ n < 9223372036854775808
  | .str, _, x => ∃ s : ByteArray, x = .str s ∧ s.size < 9223372036854775808
  | .f32s, H, x => SlA cF H x
theorem LA.app {k : LK} {H : Heap} {x : AV} (h : LA k H x) (L : Heap) : LA k (H ++ L) x := by
  cases k with
  | i64 => exact h
  | str => exact h
  | f32s => exact SlA.app h L
theorem Extw.la {k : LK} {w : World} {H H1 : Heap} {μ μ1 : Mem} (a : Extw w H μ H1 μ1) {x : AV} (h : LA k H x) : LA k H1 x := by
  obtain ⟨L, rfl⟩ := a.app; exact h.app L
/-- There is some block. -/
def HasBlk (w : World) : Prop := ∃ (b : Nat) (cs : Array Value) (e : TypeId) (fr : Nat × Nat), w.heap[b]? = some (Obj.cells cs e fr)
/-- A cell that can be opened, whatever is open yet. -/
def CellK (W : World) (k : LK) (u : Value) : Prop := HasBlk W → ∀ (H : Heap) (μ : Mem), NoOwn H → HR H μ W → ∃ H' μ' x, Extw W H μ H' μ' ∧ VR H' μ' x u ∧ LA k H' x
/-- A slice of plain cells, opened; of one without cells nothing is asked but that there is some block. -/
theorem ext_any {α : Type} (c : Cd α) {H : Heap} {μ : Mem} {w : World} (hr : HR H μ w) (hno : NoOwn H) (hfb : HasBlk w) {a : Addr} {len cap : Nat} (hlc : len ≤ cap) (hmax : cap < 9223372036854775808)
    (hcell : ∀ i, i < cap → ∃ v, w.cell? (a.add i) = some v ∧ CellIs c v) :
    ∃ s L b o p, L.own = false ∧ HR (H ++ [L]) (μ.put H.length b o p) w ∧ VR (H ++ [L]) (μ.put H.length b o p) s (.slice (some a) len cap) ∧ SlA c (H ++ [L]) s := by
  by_cases hc0 : cap = 0
  · subst hc0
    have : len = 0 := by omega
    subst this
    obtain ⟨b, cs, e, fr, hw⟩ := hfb
    refine ⟨.slc ⟨H.length, 0, 0⟩ 0, ⟨[], false, 1, true⟩, b, cs.size, 0, rfl, hr.ext hno hw (by simp) _ (by simp) rfl (by simp) (by simp), ?_, ⟨0, ?_, fun _ => ⟨[], rfl, ?_⟩⟩⟩
    · refine .slc _ _ _ ⟨[], false, 1, true⟩ (by simp) (by simp) fun _ => ⟨by simp, .inr ⟨rfl, by simp, _, rfl⟩⟩
    · simp [slen, live]
    · exact ⟨.inr ⟨⟨H.length, 0, 0⟩, ⟨[], false, 1, true⟩, by rw [c.len]; rfl, by simp, by simp, rfl, by rw [c.len]; simp, by rw [c.len, c.cells]; simp, by rw [c.len]; simp⟩, by simp⟩
  · obtain ⟨v, h1, _⟩ := hcell 0 (by omega)
    have hs : a.spot = none ∧ ∃ cs e fr, w.heap[a.block]? = some (.cells cs e fr) := by
      simp only [Addr.add, if_true, World.cell?] at h1
      split at h1
      · rename_i cs e fr hb
        split at h1
        · cases h1
        · rename_i hsp
          refine ⟨by cases ha : a.spot with
            | none => rfl
            | some q => rw [ha] at hsp; simp at hsp, _, _, _, hb⟩
      · cases h1
    exact ext_slice c hr hno hs.1 hlc hmax hs.2 hcell

section
variable {HH : Type} {enc : TypeId × Value → HH} {P : Program} {W : World} {base : Nat} {H : Heap} {μ : Mem} {t e : TypeId} {v u : Value} {d : DataW HH} {p : List MemPlace} {n : Nat} {y : DataW HH × List MemPlace}
theorem cellK_i64 (ht : P.underlying t = some (.int .i64)) (h : DataW.trod enc P W 0 (fun _ => true) true n t [u] = some y) : CellK W .i64 u := fun _ H μ hno hr => by
  obtain ⟨b, hb, _, hw⟩ := DataW.trod_int ht h
  simp at hb; subst hb
  obtain ⟨k1, k2⟩ := lit_i64 hw
  exact ⟨H, μ, .int .i64 b, Extw.refl hno hr, .int .i64 b, b, rfl, k1, k2⟩
theorem trod_str (ht : P.underlying t = some .string) (h : DataW.trod enc P W 0 (fun _ => true) true n t [u] = some y) : ∃ s : ByteArray, u = .string s ∧ s.size ≤ maxLen := by
  cases n with
  | zero => simp [DataW.trod] at h
  | succ n =>
    unfold DataW.trod at h
    rw [ht] at h
    split at h <;> simp_all
theorem cellK_str (ht : P.underlying t = some .string) (h : DataW.trod enc P W 0 (fun _ => true) true n t [u] = some y) : CellK W .str u := fun _ H μ hno hr => by
  obtain ⟨s, rfl, hs⟩ := trod_str ht h
  have : maxLen < 9223372036854775808 := by decide
  exact ⟨H, μ, .str s, Extw.refl hno hr, .str s, s, rfl, by omega⟩
theorem cellK_f32s (ht : P.underlying t = some (.slice e)) (he : P.underlying e = some (.float .f32)) (hce : P.cellsOf e = 1) (h : DataW.trod enc P W 0 (fun _ => true) true n t [u] = some y) : CellK W .f32s u := fun hfb H μ hno hr => by
  rcases open_slice1 ht hce h with ⟨hcs, _⟩ | ⟨a, len, cap, m, n', V, D, Pl, hcs, _, hl, hm, hmm, _, hx⟩
  · simp at hcs; subst hcs
    exact ⟨H, μ, .nilslc, Extw.refl hno hr, .nilslc, 0, rfl, fun _ => ⟨[], rfl, .inl ⟨rfl, cF.len []⟩, by simp⟩⟩
  · simp at hcs; subst hcs
    simp only [if_true] at hmm
    subst hmm
    have hml : maxLen < 9223372036854775808 := by decide
    obtain ⟨s, L, b, o, q, k1, k2, k3, k4⟩ := ext_any cF hr hno hfb hl (by omega) fun i hi => ⟨V i, (hx i hi).1, by
      obtain ⟨b, hv, hb⟩ := cell_float he (hx i hi).2
      rw [hv]
      exact ⟨canon .f32 b, canon_lt32 hb, fun H μ => .flt .f32 b⟩⟩
    exact ⟨_, _, s, ⟨hno.ext k1, k2, fun x u h => h.ext L, [L], rfl⟩, k3, k4⟩

/-- How an element's cells are opened. -/
def El (enc : TypeId × Value → HH) (P : Program) (W : World) (e : TypeId) (ks : List LK) : Prop :=
  ∀ (n : Nat) (cs : List Value) (y : DataW HH × List MemPlace), DataW.trod enc P W 0 (fun _ => true) true n e cs = some y → cs.length = ks.length → ∀ (c : Nat) (k : LK), ks[c]? = some k → ∃ u, cs[c]? = some u ∧ CellK W k u
/-- An argument that is a slice of structs, opened. -/
structure RnA (ks : List LK) (H : Heap) (s : AV) (X : Nat → AV) (n : Nat) : Prop where
  pos : 0 < ks.length
  lt : n < 9223372036854775808
  at' : (s = .nilslc ∧ n = 0) ∨ ∃ p B, s = .slc p n ∧ H[p.id]? = some B ∧ p.off = 0 ∧ p.ver = B.cells.length ∧ B.sz = ks.length ∧ B.cells = (List.range (n * ks.length)).map X
  la : ∀ q, q < n * ks.length → ∀ k, ks[q % ks.length]? = some k → LA k H (X q)
theorem RnA.app {ks : List LK} {H : Heap} {s : AV} {X : Nat → AV} {n : Nat} (h : RnA ks H s X n) (L : Heap) : RnA ks (H ++ L) s X n := by
  refine ⟨h.pos, h.lt, ?_, fun q hq k hk => (h.la q hq k hk).app L⟩
  rcases h.at' with h1 | ⟨p, B, h1, h2, h3⟩
  · exact .inl h1
  · exact .inr ⟨p, B, h1, by rw [List.getElem?_append_left (List.getElem?_eq_some_iff.1 h2).1]; exact h2, h3⟩
theorem Extw.rn {ks : List LK} {w : World} {H H1 : Heap} {μ μ1 : Mem} (a : Extw w H μ H1 μ1) {s : AV} {X : Nat → AV} {n : Nat} (h : RnA ks H s X n) : RnA ks H1 s X n := by
  obtain ⟨L, rfl⟩ := a.app; exact h.app L
/-- Cells opened one after another. -/
theorem open_all {ks : List LK} (hk : 0 < ks.length) (hfb : HasBlk W) (V : Nat → Value) (hno : NoOwn H) (hr : HR H μ W) : ∀ m, (∀ q, q < m → ∀ k, ks[q % ks.length]? = some k → CellK W k (V q)) →
    ∃ (H' : Heap) (μ' : Mem) (X : Nat → AV), Extw W H μ H' μ' ∧ ∀ q, q < m → VR H' μ' (X q) (V q) ∧ ∀ k, ks[q % ks.length]? = some k → LA k H' (X q)
  | 0, _ => ⟨H, μ, fun _ => .top, Extw.refl hno hr, fun q hq => by omega⟩
  | m + 1, hV => by
    obtain ⟨H1, μ1, X, e1, h1⟩ := open_all hk hfb V hno hr m fun q hq => hV q (by omega)
    have hlt : m % ks.length < ks.length := Nat.mod_lt _ hk
    obtain ⟨H2, μ2, x, e2, h2, h3⟩ := hV m (by omega) _ (List.getElem?_eq_getElem hlt) hfb H1 μ1 e1.no e1.hr
    refine ⟨H2, μ2, fun q => if q = m then x else X q, e1.trans e2, fun q hq => ?_⟩
    by_cases hqm : q = m
    · subst hqm
      refine ⟨by simp only [if_true]; exact h2, fun k hk' => ?_⟩
      rw [List.getElem?_eq_getElem hlt] at hk'; cases hk'
      simp only [if_true]; exact h3
    · obtain ⟨g1, g2⟩ := h1 q (by omega)
      simp only [hqm, if_false]
      exact ⟨e2.vr _ _ g1, fun k hk' => e2.la (g2 k hk')⟩
theorem arg_rns {ks : List LK} (ht : P.underlying t = some (.slice e)) (hce : P.cellsOf e = ks.length) (hpos : 0 < ks.length) (hel : El enc P W e ks)
    (hval : Value.okWide P W .any base t v) (htr : DataW.Trod enc P W 0 (fun _ => true) true t v d p) (hno : NoOwn H) (hr : HR H μ W) :
    ∃ (H' : Heap) (μ' : Mem) (s : AV) (X : Nat → AV) (n : Nat), Extw W H μ H' μ' ∧ VR H' μ' s v ∧ RnA ks H' s X n := by
  obtain ⟨a0, len, cap, rfl⟩ := okWide_slice ht hval
  obtain ⟨fuel, hf⟩ := htr
  rcases open_slice ht hf with ⟨hcs, _⟩ | ⟨a, len', cap', m, n, D, Pl, hcs, _, hl, hm, hmm, _, hx⟩
  · simp [Value.cells] at hcs
    obtain ⟨rfl, rfl, rfl⟩ := hcs
    exact ⟨H, μ, .nilslc, fun _ => .top, 0, Extw.refl hno hr, .nilslc, hpos, by decide, .inl ⟨rfl, rfl⟩, fun q hq => by omega⟩
  · simp [Value.cells] at hcs
    obtain ⟨rfl, rfl, rfl⟩ := hcs
    simp only [if_true] at hmm
    subst hmm
    obtain ⟨h1, hm, h2, cs, el, fr, hw⟩ := okWide_slice_has ht hval
    rw [hce] at hx
    obtain ⟨ab, ao, asp⟩ := a
    simp only at h2 hw
    subst h2
    have hget : ∀ i, i < m → ∀ c, c < ks.length → ∀ k, ks[c]? = some k → ∃ u, cs[ao + (i * ks.length + c)]? = some u ∧ CellK W k u := fun i hi c hc k hk => by
      obtain ⟨cs', q1, q2⟩ := hx i hi
      obtain ⟨_, q3, q4⟩ := World.cells?_some q1
      obtain ⟨u, u1, u2⟩ := hel n cs' _ q2 q3 c k hk
      refine ⟨u, ?_, u2⟩
      have := q4 c hc
      rw [u1] at this
      have e2 : ((⟨ab, ao, none⟩ : Addr).add (i * ks.length)).add c = ⟨ab, ao + (i * ks.length + c), none⟩ := by
        unfold Addr.add
        by_cases z1 : i * ks.length = 0 <;> by_cases z2 : c = 0 <;> simp [z1, z2, Nat.add_assoc]
      rw [e2] at this
      simpa [World.cell?, hw] using this
    have hall : ∀ q, q < m * ks.length → ∀ k, ks[q % ks.length]? = some k → ∃ u, cs[ao + q]? = some u ∧ CellK W k u := fun q hq k hk => by
      have hd : q / ks.length < m := Nat.div_lt_of_lt_mul (by rw [Nat.mul_comm]; exact hq)
      have := hget (q / ks.length) hd (q % ks.length) (Nat.mod_lt _ hpos) k hk
      have e2 : q / ks.length * ks.length + q % ks.length = q := by rw [Nat.mul_comm]; exact Nat.div_add_mod _ _
      rw [e2] at this
      exact this
    have hks : ∀ q, ∃ k, ks[q % ks.length]? = some k := fun q => ⟨_, List.getElem?_eq_getElem (Nat.mod_lt _ hpos)⟩
    have hsz : ao + m * ks.length ≤ cs.size ∨ m = 0 := by
      by_cases h0 : m = 0
      · exact .inr h0
      · left
        have hp : 0 < m * ks.length := Nat.mul_pos (by omega) hpos
        obtain ⟨k, hk⟩ := hks (m * ks.length - 1)
        obtain ⟨u, h1, _⟩ := hall (m * ks.length - 1) (by omega) k hk
        have := (Array.getElem?_eq_some_iff.1 h1).1
        omega
    obtain ⟨H1, μ1, X, e1, hX⟩ := open_all (W := W) hpos ⟨_, _, _, _, hw⟩ (fun q => cs.getD (ao + q) undef) hno hr (len * ks.length) fun q hq k hk => by
      obtain ⟨u, u1, u2⟩ := hall q (Nat.lt_of_lt_of_le hq (Nat.mul_le_mul_right _ h1)) k hk
      have : cs.getD (ao + q) undef = u := by rw [Array.getD_eq_getD_getElem?, u1]; rfl
      rw [this]; exact u2
    let L : Blk := ⟨(List.range (len * ks.length)).map X, false, ks.length, false⟩
    have hLl : L.cells.length = len * ks.length := by simp [L]
    have hmul := Nat.mul_le_mul_right ks.length h1
    by_cases hm0 : m = 0
    · subst hm0
      have : len = 0 := by omega
      subst this
      have hr2 := e1.hr.ext e1.no hw (o := cs.size) (p := 0) (by simp) L (by rw [hLl]; simp) rfl (fun i c hc => by simp [L] at hc) (fun hf => by cases hf)
      refine ⟨_, _, .slc ⟨H1.length, 0, 0⟩ 0, X, 0, e1.trans ⟨e1.no.ext rfl, hr2, fun x u h => h.ext L, [L], rfl⟩, ?_, hpos, by decide, .inr ⟨_, L, rfl, by simp, rfl, by simp [L], rfl, rfl⟩, fun q hq => by omega⟩
      exact .slc _ _ _ L (by simp) (by simp) fun _ => ⟨by simp, .inr ⟨rfl, by simp [L], _, rfl⟩⟩
    · have hsz := hsz.resolve_right hm0
      have hr2 := e1.hr.ext e1.no hw (o := ao) (p := cs.size - ao) (by omega) L (by rw [hLl]; omega) rfl (fun i c hc => by
        have hi : i < len * ks.length := by have := (List.getElem?_eq_some_iff.1 hc).1; omega
        simp only [L, List.getElem?_map, List.getElem?_range hi, Option.map_some, Option.some.injEq] at hc
        subst hc
        refine ⟨_, ?_, (hX i hi).1⟩
        rw [Array.getD_eq_getD_getElem?, Array.getElem?_eq_getElem (by omega)]
        rfl) (fun hf => by cases hf)
      refine ⟨_, _, .slc ⟨H1.length, 0, len * ks.length⟩ len, X, len, e1.trans ⟨e1.no.ext rfl, hr2, fun x u h => h.ext L, [L], rfl⟩, ?_, hpos, by omega, .inr ⟨_, L, rfl, by simp, rfl, hLl.symm, rfl, rfl⟩, fun q hq k hk => ((hX q hq).2 k hk).app [L]⟩
      refine .slc _ _ _ L (by simp) (by rw [hLl]; exact Nat.le_refl _) fun _ => ⟨by simp [L], .inl ⟨m, ?_, ?_, ?_⟩⟩
      · simp [Mem.put]
      · rw [hLl]; simp [L]; exact hmul
      · simp [Mem.put, L]; omega
end

/-! the columns -/
theorem choose_list {α : Type} [Inhabited α] {Q : Nat → α → Prop} : ∀ (n : Nat), (∀ i, i < n → ∃ x, Q i x) → ∃ xs : List α, xs.length = n ∧ ∀ i, i < n → Q i (nth xs i)
  | 0, _ => ⟨[], rfl, fun i hi => by omega⟩
  | n + 1, h => by
    obtain ⟨xs, h1, h2⟩ := choose_list n fun i hi => h i (by omega)
    obtain ⟨x, hx⟩ := h n (by omega)
    refine ⟨xs ++ [x], by simp [h1], fun i hi => ?_⟩
    rw [nth_of _ _ (by simp [h1]; exact hi)]
    by_cases e : i = n
    · subst e; simp only [List.getElem_append_right (Nat.le_of_eq h1)]; simpa [h1] using hx
    · have hlt : i < xs.length := by omega
      rw [List.getElem_append_left hlt, ← nth_of _ _ hlt]; exact h2 i (by omega)
section
variable {ks : List LK} {H : Heap} {s : AV} {X : Nat → AV} {n : Nat}
theorem RnA.cell (h : RnA ks H s X n) {c : Nat} {k : LK} (hc : ks[c]? = some k) {i : Nat} (hi : i < n) : LA k H (X (i * ks.length + c)) := by
  have hlt := (List.getElem?_eq_some_iff.1 hc).1
  have hmul := Nat.mul_le_mul_right ks.length (show i + 1 ≤ n from hi)
  rw [Nat.add_mul] at hmul
  refine h.la _ (by omega) k ?_
  rw [Nat.add_comm, Nat.add_mul_mod_self_right, Nat.mod_eq_of_lt hlt]; exact hc
theorem RnA.ints (h : RnA ks H s X n) {c : Nat} (hc : ks[c]? = some .i64) : ∃ xs : List Int, xs.length = n ∧ ∀ i, i < n → X (i * ks.length + c) = .int .i64 (nth xs i) ∧ -9223372036854775808 ≤ nth xs i ∧ nth xs i < 9223372036854775808 :=
  choose_list (Q := fun i x => X (i * ks.length + c) = .int .i64 x ∧ -9223372036854775808 ≤ x ∧ x < 9223372036854775808) n fun i hi => by
    obtain ⟨x, h1, h2, h3⟩ := h.cell hc hi
    exact ⟨x, h1, h2, h3⟩
theorem RnA.strs (h : RnA ks H s X n) {c : Nat} (hc : ks[c]? = some .str) : ∃ xs : List ByteArray, xs.length = n ∧ ∀ i, i < n → X (i * ks.length + c) = .str (nth xs i) ∧ (nth xs i).size < 9223372036854775808 :=
  choose_list (Q := fun i x => X (i * ks.length + c) = .str x ∧ x.size < 9223372036854775808) n fun i hi => by
    obtain ⟨x, h1, h2⟩ := h.cell hc hi
    exact ⟨x, h1, h2⟩
/-- The slices' lengths, and what they read as if none is beyond measure. -/
theorem RnA.lens (h : RnA ks H s X n) {c : Nat} (hc : ks[c]? = some .f32s) : ∃ ns : List Nat, ns.length = n ∧ (∀ i, i < n → slen H (X (i * ks.length + c)) = some (nth ns i)) ∧
    ((∀ i, i < n → nth ns i ≤ maxN) → ∃ xs : List (List Nat), xs.length = n ∧ ∀ i, i < n → (nth xs i).length ≤ maxN ∧ Reads H (X (i * ks.length + c)) (.f32 (nth xs i)) ∧ ∀ x ∈ nth xs i, x < 4294967296) := by
  obtain ⟨ns, h1, h2⟩ := choose_list (Q := fun i m => slen H (X (i * ks.length + c)) = some m ∧ (m ≤ maxN → ∃ xs : List Nat, xs.length = m ∧ Reads H (X (i * ks.length + c)) (cF.row xs) ∧ ∀ x ∈ xs, cF.ok x)) n fun i hi => by
    obtain ⟨m, k1, k2⟩ := h.cell hc hi
    exact ⟨m, k1, k2⟩
  refine ⟨ns, h1, fun i hi => (h2 i hi).1, fun hm => ?_⟩
  exact choose_list (Q := fun i xs => xs.length ≤ maxN ∧ Reads H (X (i * ks.length + c)) (.f32 xs) ∧ ∀ x ∈ xs, x < 4294967296) n fun i hi => by
    obtain ⟨xs, k1, k2, k3⟩ := (h2 i hi).2 (hm i hi)
    exact ⟨xs, by rw [k1]; exact hm i hi, k2, k3⟩
/-- What a frame must say of the argument's places. -/
structure Pls (ρ : Nat → AV) (es t : Nat) (s : AV) (X : Nat → AV) : Prop where
  a : ρ t = s
  b : ∀ i c, c < es → ρ (t + 64 * (8 * i + c) + 64) = X (i * es + c)
/-- How a column tells the cells. -/
def ColIs (H : Heap) (es c n : Nat) (X : Nat → AV) : RCol → Prop
  | .pl (.i64 xs) => xs.length = n ∧ ∀ i, i < n → X (i * es + c) = .int .i64 (nth xs i)
  | .pl (.str xs) => xs.length = n ∧ ∀ i, i < n → X (i * es + c) = .str (nth xs i)
  | .sl (.f32 xs) => xs.length = n ∧ ∀ i, i < n → Reads H (X (i * es + c)) (.f32 (nth xs i))
  | .ln ns => ns.length = n ∧ ∀ i, i < n → slen H (X (i * es + c)) = some (nth ns i)
  | _ => False
theorem RnA.rns (h : RnA ks H s X n) {F : Fr} (h0 : F.H0 = H) (hids : F.ids = []) {t : Nat} (hp : Pls F.ρ ks.length t s X) {cols : List RCol} (hl : cols.length = ks.length) (hc : ∀ (c : Nat) (col : RCol), cols[c]? = some col → ColIs H ks.length c n X col) (L : List DBlk) : (DV.rns t cols).Ok F L := by
  have hlen : ∀ (c : Nat) (col : RCol), cols[c]? = some col → col.len = n := fun c col hcol => by
    have := hc c col hcol
    unfold ColIs at this
    split at this <;> first | exact this.1 | exact this.elim
  have hpos : 0 < cols.length := by rw [hl]; exact h.pos
  have hn : rlen cols = n := by
    cases hcs : cols with
    | nil => rw [hcs] at hpos; simp at hpos
    | cons c l => exact hlen 0 c (by rw [hcs]; rfl)
  have base : RNs F F.H0 t cols := by
    refine ⟨hpos, fun c hcm => ?_, by rw [hn]; exact h.lt, ?_, fun i hi => ?_, fun i hi c col hcol => ?_⟩
    · obtain ⟨k, hk⟩ := List.getElem?_of_mem hcm
      rw [hn]; exact hlen k c hk
    · rw [hp.a, hn, h0, hl]
      rcases h.at' with h1 | ⟨p, B, h1, h2, h3, h4, h5, h6⟩
      · exact .inl h1
      · exact .inr ⟨p, B, h1, h2, h4, h5⟩
    · rw [hn] at hi
      rcases h.at' with ⟨_, h1⟩ | ⟨p, B, h1, h2, h3, h4, h5, h6⟩
      · omega
      · have hmul := Nat.mul_le_mul_right ks.length (show i + 1 ≤ n from hi)
        rw [Nat.add_mul] at hmul
        have hcl : ∀ (c : Nat) (l : List RCol), (rcells t i c l).length = l.length := fun c l => by
          induction l generalizing c with
          | nil => rfl
          | cons q l ih => simp [rcells, ih]
        have hav : ∀ (l : List RCol) (c : Nat), (∀ k col, l[k]? = some col → cols[c + k]? = some col) → DVs.av F (rcells t i c l) = (List.range l.length).map fun k => X (i * ks.length + (c + k)) := fun l => by
          induction l with
          | nil => intro c _; rfl
          | cons q l ih =>
            intro c hq
            have hq0 : cols[c]? = some q := by have := hq 0 q rfl; simpa using this
            have hclt : c < ks.length := by rw [← hl]; exact (List.getElem?_eq_some_iff.1 hq0).1
            have hone : (q.cell t i c).av F = X (i * ks.length + c) := by
              have hci := hc c q hq0
              have hb := hp.b i c hclt
              unfold ColIs at hci
              split at hci
              · simp only [RCol.cell, Row.get, DV.av]; exact (hci.2 i hi).symm
              · simp only [RCol.cell, Row.get, DV.av]; exact (hci.2 i hi).symm
              · simp only [RCol.cell, DV.av, innR, BR.av]; exact hb
              · simp only [RCol.cell, DV.av, innR, BR.av]; exact hb
              · exact hci.elim
            simp only [rcells, DVs.av, hone]
            rw [ih (c + 1) fun k col hk => by have := hq (k + 1) col (by simpa using hk); rw [show c + 1 + k = c + (k + 1) by omega]; exact this]
            rw [List.length_cons, List.range_succ_eq_map, List.map_cons, List.map_map]
            congr 1
            refine List.map_congr_left fun k _ => ?_
            show _ = X (i * ks.length + (c + (k + 1)))
            congr 1; omega
        have hall := hav cols 0 fun k col hk => by rw [Nat.zero_add]; exact hk
        rw [hp.a, h1, hl, h0]
        refine ⟨⟨p.id, p.off + i * ks.length, p.ver⟩, B, rfl, h2, h4, ?_, ?_⟩
        · rw [DVs.av_len, hcl, hl, h6, h3]; simp; omega
        · rw [DVs.av_len, hcl, hl, hall, hl, h6, h3]
          refine List.ext_getElem? fun k => ?_
          rw [List.getElem?_take, List.getElem?_drop, List.getElem?_map, List.getElem?_map]
          by_cases hk : k < ks.length
          · have hz : 0 + i * ks.length + k < n * ks.length := by omega
            rw [if_pos hk, List.getElem?_range hz, List.getElem?_range hk]
            simp
          · rw [if_neg hk, List.getElem?_eq_none (by simpa using hk)]; rfl
    · rw [hn] at hi
      have hclt : c < ks.length := by rw [← hl]; exact (List.getElem?_eq_some_iff.1 hcol).1
      have hci := hc c col hcol
      have hb := hp.b i c hclt
      unfold ColIs at hci
      split at hci
      · trivial
      · trivial
      · simp only [RInn, innR, BR.av, hb, h0]; exact hci.2 i hi
      · simp only [RInn, innR, BR.av, hb, h0]; exact slen_lens (hci.2 i hi)
      · exact hci.elim
  exact rns_ok (F := F) (F' := F) hids base rfl fun m => rfl
end
/-! the places of arguments that are slices of structs -/
def farX (es t : Nat) (X : Nat → AV) (k : Nat) : AV := X ((k - 64 - t) / 64 / 8 * es + (k - 64 - t) / 64 % 8)
theorem farX_at {es t i c : Nat} {X : Nat → AV} (hc : c < es) (he : es ≤ 8) : farX es t X (t + 64 * (8 * i + c) + 64) = X (i * es + c) := by
  unfold farX
  have h1 : (t + 64 * (8 * i + c) + 64 - 64 - t) / 64 = 8 * i + c := by omega
  rw [h1]
  have h2 : (8 * i + c) / 8 = i := by omega
  have h3 : (8 * i + c) % 8 = c := by omega
  rw [h2, h3]
theorem pls1 {l : List AV} {es t : Nat} {s : AV} {X : Nat → AV} (hl : l.length ≤ 64) (hs : l[t]? = some s) (he : es ≤ 8) : Pls (fun k => (l[k]?).getD (farX es t X k)) es t s X :=
  ⟨by simp only [hs, Option.getD_some], fun i c hc => by rw [← farX_at (t := t) (X := X) hc he]; exact rho_far (g := farX es t X) (by omega)⟩
def farX2 (es t : Nat) (X : Nat → AV) (es' t' : Nat) (X' : Nat → AV) (k : Nat) : AV := if k % 64 = t then farX es t X k else farX es' t' X' k
theorem pls2a {l : List AV} {es t : Nat} {s : AV} {X : Nat → AV} {es' t' : Nat} {X' : Nat → AV} (hl : l.length ≤ 64) (hs : l[t]? = some s) (he : es ≤ 8) : Pls (fun k => (l[k]?).getD (farX2 es t X es' t' X' k)) es t s X :=
  ⟨by simp only [hs, Option.getD_some], fun i c hc => by
    have ht : t < 64 := by have := (List.getElem?_eq_some_iff.1 hs).1; omega
    have e : farX2 es t X es' t' X' (t + 64 * (8 * i + c) + 64) = X (i * es + c) := by
      unfold farX2
      rw [if_pos (by omega)]
      exact farX_at hc he
    rw [← e]; exact rho_far (g := farX2 es t X es' t' X') (by omega)⟩
theorem pls2b {l : List AV} {es t : Nat} {X : Nat → AV} {es' t' : Nat} {s' : AV} {X' : Nat → AV} (hl : l.length ≤ 64) (hs : l[t']? = some s') (he : es' ≤ 8) (hne : t' ≠ t) : Pls (fun k => (l[k]?).getD (farX2 es t X es' t' X' k)) es' t' s' X' :=
  ⟨by simp only [hs, Option.getD_some], fun i c hc => by
    have ht : t' < 64 := by have := (List.getElem?_eq_some_iff.1 hs).1; omega
    have e : farX2 es t X es' t' X' (t' + 64 * (8 * i + c) + 64) = X' (i * es' + c) := by
      unfold farX2
      rw [if_neg (by omega)]
      exact farX_at hc he
    rw [← e]; exact rho_far (g := farX2 es t X es' t' X') (by omega)⟩
theorem exceed {n : Nat} {ns : List Nat} (h : ¬ ∀ i, i < n → nth ns i ≤ maxN) : ∃ i, i < n ∧ maxN < nth ns i :=
  Classical.byContradiction fun hc => h fun i hi => Nat.le_of_not_lt fun hl => hc ⟨i, hi, hl⟩
theorem cols3 {H : Heap} {es n : Nat} {X : Nat → AV} {c0 c1 c2 : RCol} (h0 : ColIs H es 0 n X c0) (h1 : ColIs H es 1 n X c1) (h2 : ColIs H es 2 n X c2) : ∀ (c : Nat) (col : RCol), [c0, c1, c2][c]? = some col → ColIs H es c n X col := fun c col h => by
  match c with
  | 0 => cases h; exact h0
  | 1 => cases h; exact h1
  | 2 => cases h; exact h2
  | c + 3 => simp at h
theorem cols4 {H : Heap} {es n : Nat} {X : Nat → AV} {c0 c1 c2 c3 : RCol} (h0 : ColIs H es 0 n X c0) (h1 : ColIs H es 1 n X c1) (h2 : ColIs H es 2 n X c2) (h3 : ColIs H es 3 n X c3) : ∀ (c : Nat) (col : RCol), [c0, c1, c2, c3][c]? = some col → ColIs H es c n X col := fun c col h => by
  match c with
  | 0 => cases h; exact h0
  | 1 => cases h; exact h1
  | 2 => cases h; exact h2
  | 3 => cases h; exact h3
  | c + 4 => simp at h
end Go.Proofs.Ythdmkdkbfhoahaa.AM
