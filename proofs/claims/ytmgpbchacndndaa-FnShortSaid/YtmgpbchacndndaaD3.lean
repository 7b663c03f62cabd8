import Derived.Test.YtmgpbchacndndaaD2
set_option linter.unusedSimpArgs false
set_option linter.unusedVariables false
namespace Go.Proofs.Ytmgpbchacndndaa.AM
structure Fr where
  H0 : Heap
  ids : List Nat
  lt : ∀ i ∈ ids, i < H0.length
  ws : WS H0
  ρ : Nat → AV
  pl : Nat → Nat → Nat → Nat
def Fr.wa (F : Fr) (g : Nat → Nat → Nat → Nat) : Fr := { F with pl := g }
def Fr.abs (F : Fr) (j : Nat) : Nat := F.pl j 0 0
def Fr.agree (F : Fr) (H : Heap) : Prop := F.H0.length ≤ H.length ∧ ∀ i, i < F.H0.length → i ∉ F.ids → H[i]? = F.H0[i]?
mutual
def DV.av (F : Fr) : DV → AV
  | .top => .top
  | .undef => .undef
  | .lit b => .bool b
  | .bool b => .bool b
  | .int k n => .int k n
  | .flt k x => .flt k x
  | .str s => .str s
  | .nilptr => .nilptr
  | .nilfn => .nilfn
  | .nilslc => .nilslc
  | .ptr j off _ alen => .ptr ⟨F.abs j, off, alen⟩
  | .own j _ len => .slc ⟨F.abs j, 0, len⟩ len
  | .slc j off _ alen len => .slc ⟨F.abs j, off, alen⟩ len
  | .fn f cs => .fn f (DVs.av F cs)
  | .agg cs => .agg (DVs.av F cs)
  | .tup cs => .tup (DVs.av F cs)
  | .bslc s _ => s.av F.ρ
  | .bptr p _ => p.av F.ρ
  | .hslc s _ => s.av F.ρ
  | .nest j _ es len => .slc ⟨F.abs j, 0, len * es⟩ len
  | .ncell j _ es len i c => .ptr ⟨F.abs j, i * es + c, len * es⟩
  | .inn j c k len => (match k with | 0 => .nilslc | k + 1 => .slc ⟨F.pl j (c + 1) k, 0, len⟩ len)
  | .icell j c k i len => .ptr ⟨F.pl j (c + 1) (k - 1), i, len⟩
  | .rns n _ => F.ρ n
  | .nsb j _ es lo len alen => .slc ⟨F.abs j, lo * es, alen * es⟩ len
def DVs.av (F : Fr) : List DV → List AV
  | [] => []
  | c :: cs => c.av F :: DVs.av F cs
end
theorem DVs.av_eq (F : Fr) (cs : List DV) : DVs.av F cs = cs.map (·.av F) := by
  induction cs with
  | nil => rfl
  | cons c cs ih => simp [DVs.av, ih]
@[simp] theorem DVs.av_len (F : Fr) (cs : List DV) : (DVs.av F cs).length = cs.length := by simp [DVs.av_eq]
def Ac_ (F : Fr) (j : Nat) (cols : List Col) : List AV :=
  (List.range (colsN cols * cols.length)).map fun p => (match cols[p % cols.length]? with | some col => (col.cell j (p % cols.length) (p / cols.length)).av F | none => .top)
@[simp] theorem Dq_ (F : Fr) (j : Nat) (cols : List Col) : (Ac_ F j cols).length = colsN cols * cols.length := by simp [Ac_]
def DBlk.blk (F : Fr) (j : Nat) : DBlk → Blk
  | .row r _ => ⟨r.cells, true, 1, true⟩
  | .gen cs fl _ => ⟨DVs.av F cs, true, 1, fl⟩
  | .nest cols fl _ => ⟨Ac_ F j cols, true, cols.length, fl⟩
  | .gone n _ => ⟨List.replicate n .top, true, 1, true⟩
def DBlk.at' (F : Fr) (j c k : Nat) : DBlk → Option Blk
  | .gone _ _ => none
  | .row r v => if c = 0 ∧ k = 0 then some ((DBlk.row r v).blk F j) else none
  | .gen cs fl v => if c = 0 ∧ k = 0 then some ((DBlk.gen cs fl v).blk F j) else none
  | .nest cols fl v => (match c with
    | 0 => if k = 0 then some ((DBlk.nest cols fl v).blk F j) else none
    | c + 1 => (match cols[c]? with | some (.sl inn _) => if k < inn.n then some ⟨(inn.get (k + 1)).cells, true, 1, true⟩ else none | _ => none))
def blkAt (F : Fr) (L : List DBlk) (j c k : Nat) : Option Blk := match L[j]? with | some b => b.at' F j c k | none => none
theorem Am_ {F : Fr} {L : List DBlk} {j : Nat} {b : DBlk} (h : L[j]? = some b) (c k : Nat) : blkAt F L j c k = b.at' F j c k := by simp only [blkAt, h]
def Reads (H : Heap) (s : AV) (r : Row) : Prop :=
  (s = .nilslc ∧ r.len = 0) ∨ ∃ p B, s = .slc p r.len ∧ H[p.id]? = some B ∧ p.ver = B.cells.length ∧ B.sz = 1 ∧ p.off + r.len ≤ B.cells.length ∧ (B.cells.drop p.off).take r.len = r.cells ∧ r.len ≤ maxN
def Lens (H : Heap) (s : AV) (n : Nat) : Prop := (s = .nilslc ∧ n = 0) ∨ ∃ p B, s = .slc p n ∧ H[p.id]? = some B ∧ p.ver = B.cells.length ∧ n < 9223372036854775808
def Dv_ (H : Heap) (p : AV) (cs : List AV) : Prop :=
  ∃ r B, p = .ptr r ∧ H[r.id]? = some B ∧ r.ver = B.cells.length ∧ r.off + cs.length ≤ B.cells.length ∧ (B.cells.drop r.off).take cs.length = cs
def RInn (ρ : Nat → AV) (H : Heap) (n i c : Nat) : RCol → Prop
  | .pl _ => True
  | .sl inn => Reads H ((innR n i c).av ρ) (inn.get (i + 1))
  | .ln ns => Lens H ((innR n i c).av ρ) (nth ns i)
structure RNs (F : Fr) (H : Heap) (n : Nat) (cols : List RCol) : Prop where
  pos : 0 < cols.length
  same : ∀ c ∈ cols, c.len = rlen cols
  lt : rlen cols < 9223372036854775808
  at' : (F.ρ n = .nilslc ∧ rlen cols = 0) ∨ ∃ p B, F.ρ n = .slc p (rlen cols) ∧ H[p.id]? = some B ∧ p.ver = B.cells.length ∧ B.sz = cols.length
  cells : ∀ i, i < rlen cols → Dv_ H (AV.plc' (i * cols.length) (F.ρ n)) (DVs.av F (D8_ n i 0 cols))
  inn : ∀ i, i < rlen cols → ∀ (c : Nat) (col : RCol), cols[c]? = some col → RInn F.ρ H n i c col
theorem T0_ {F F' : Fr} (h : F'.ρ = F.ρ) (n i : Nat) : ∀ (c : Nat) (cols : List RCol), DVs.av F' (D8_ n i c cols) = DVs.av F (D8_ n i c cols)
  | _, [] => rfl
  | c, col :: l => by
    simp only [D8_, DVs.av, T0_ h n i (c + 1) l]
    congr 1
    cases col with
    | pl r => cases r <;> rfl
    | sl inn => simp only [RCol.cell, DV.av, h]
    | ln ns => simp only [RCol.cell, DV.av, h]
theorem RNs.congr {F F' : Fr} (h : F'.ρ = F.ρ) {H : Heap} {n : Nat} {cols : List RCol} (hr : RNs F H n cols) : RNs F' H n cols :=
  ⟨hr.pos, hr.same, hr.lt, by rw [h]; exact hr.at', fun i hi => by rw [h, T0_ h]; exact hr.cells i hi, by rw [h]; exact hr.inn⟩
def InnOk (L : List DBlk) (j c k len : Nat) : Prop :=
  len ≤ maxN ∧ ((∃ n v, L[j]? = some (.gone n v)) ∨ ∃ cols fl v inn idx, L[j]? = some (.nest cols fl v) ∧ cols[c]? = some (.sl inn idx) ∧ k ≤ inn.n ∧ len = (inn.get k).len)
mutual
def DV.Ok (F : Fr) (L : List DBlk) : DV → Prop
  | .ptr j off ver alen => ∃ b, L[j]? = some b ∧ ver ≤ b.ver ∧ off < alen ∧ alen ≤ b.clen ∧ (ver = b.ver → alen = b.clen)
  | .own j ver len => ∃ b, L[j]? = some b ∧ ver ≤ b.ver ∧ len ≤ b.clen ∧ (ver = b.ver → len = b.clen) ∧ len ≤ maxN
  | .slc j off ver alen len => ∃ b, L[j]? = some b ∧ ver ≤ b.ver ∧ off + len ≤ alen ∧ alen ≤ b.clen ∧ (ver = b.ver → alen = b.clen) ∧ len ≤ maxN
  | .bslc s row => ∀ H, F.agree H → Reads H (s.av F.ρ) row
  | .hslc s n => ∀ H, F.agree H → Lens H (s.av F.ρ) n
  | .bptr p cs => (∀ H, F.agree H → Dv_ H (p.av F.ρ) (DVs.av F cs)) ∧ DVs.Ok F L cs
  | .fn _ cs => DVs.Ok F L cs
  | .agg cs => DVs.Ok F L cs
  | .tup cs => DVs.Ok F L cs
  | .nest j ver es len => ∃ b, L[j]? = some b ∧ ver ≤ b.ver ∧ len * es ≤ b.clen ∧ (ver = b.ver → len * es = b.clen) ∧ len ≤ maxN
  | .ncell j ver es len i c => ∃ b, L[j]? = some b ∧ ver ≤ b.ver ∧ len * es ≤ b.clen ∧ (ver = b.ver → len * es = b.clen) ∧ i < len ∧ c < es
  | .inn j c k len => InnOk L j c k len
  | .icell j c k i len => InnOk L j c k len ∧ 1 ≤ k ∧ i < len
  | .rns n cols => ∀ H, F.agree H → RNs F H n cols
  | .nsb j ver es lo len alen => ∃ b, L[j]? = some b ∧ ver ≤ b.ver ∧ alen * es ≤ b.clen ∧ (ver = b.ver → alen * es = b.clen) ∧ lo + len ≤ alen ∧ alen ≤ maxN
  | _ => True
def DVs.Ok (F : Fr) (L : List DBlk) : List DV → Prop
  | [] => True
  | c :: cs => c.Ok F L ∧ DVs.Ok F L cs
end
theorem DVs.ok_iff {F : Fr} {L : List DBlk} {cs : List DV} : DVs.Ok F L cs ↔ ∀ c ∈ cs, c.Ok F L := by
  induction cs with
  | nil => simp [DVs.Ok]
  | cons c cs ih => simp [DVs.Ok, ih]
inductive NExt : DBlk → DBlk → Prop where
  | gone (b : DBlk) (n v : Nat) : NExt b (.gone n v)
  | row (r r' : Row) (v v' : Nat) : NExt (.row r v) (.row r' v')
  | gen (cs cs' : List DV) (fl fl' : Bool) (v v' : Nat) : NExt (.gen cs fl v) (.gen cs' fl' v')
  | nest (cols cols' : List Col) (fl fl' : Bool) (v v' : Nat) (hl : cols.length = cols'.length)
      (h : ∀ (c : Nat) (inn : NRow) (idx : List Nat), cols[c]? = some (Col.sl inn idx) → ∃ (inn' : NRow) (idx' : List Nat), cols'[c]? = some (Col.sl inn' idx') ∧ inn.n ≤ inn'.n ∧ ∀ k, k ≤ inn.n → (inn'.get k).len = (inn.get k).len) : NExt (.nest cols fl v) (.nest cols' fl' v')
theorem NExt.refl (b : DBlk) : NExt b b := by
  cases b with
  | row r v => exact .row _ _ _ _
  | gen cs fl v => exact .gen _ _ _ _ _ _
  | gone n v => exact .gone _ _ _
  | nest cols fl v => exact .nest _ _ _ _ _ _ rfl fun c inn idx h => ⟨inn, idx, h, Nat.le_refl _, fun _ _ => rfl⟩
theorem NExt.trans {a b c : DBlk} (h : NExt a b) (h' : NExt b c) : NExt a c := by
  cases h with
  | gone b n v => cases h'; exact .gone _ _ _
  | row => cases h' <;> constructor
  | gen => cases h' <;> constructor
  | nest cols cols' fl fl' v v' hl h =>
    cases h' with
    | gone => exact .gone _ _ _
    | nest _ cols'' _ fl'' _ v'' hl' h' =>
      refine .nest _ _ _ _ _ _ (hl.trans hl') fun c inn idx hc => ?_
      obtain ⟨i1, x1, h1, h2, h3⟩ := h c inn idx hc
      obtain ⟨i2, x2, g1, g2, g3⟩ := h' c i1 x1 h1
      exact ⟨i2, x2, g1, Nat.le_trans h2 g2, fun k hk => by rw [g3 k (by omega), h3 k hk]⟩
def Ext (L L' : List DBlk) : Prop := ∀ (j : Nat) (b : DBlk), L[j]? = some b → ∃ b', L'[j]? = some b' ∧ b.ver ≤ b'.ver ∧ b.clen ≤ b'.clen ∧ (b.ver = b'.ver → b.clen = b'.clen) ∧ NExt b b'
theorem Ext.refl (L : List DBlk) : Ext L L := fun j b h => ⟨b, h, Nat.le_refl _, Nat.le_refl _, fun _ => rfl, .refl _⟩
theorem Ext.trans {L L' L'' : List DBlk} (h : Ext L L') (h' : Ext L' L'') : Ext L L'' := fun j b hb => by
  obtain ⟨b', k1, k2, k3, k4, k5⟩ := h j b hb
  obtain ⟨b'', g1, g2, g3, g4, g5⟩ := h' j b' k1
  exact ⟨b'', g1, by omega, by omega, fun he => by rw [k4 (by omega)]; exact g4 (by omega), k5.trans g5⟩
theorem Ext.push (L : List DBlk) (b : List DBlk) : Ext L (L ++ b) := fun j b' h => ⟨b', by rw [List.getElem?_append_left (List.getElem?_eq_some_iff.1 h).1]; exact h, Nat.le_refl _, Nat.le_refl _, fun _ => rfl, .refl _⟩
theorem Ext.set {L : List DBlk} {j : Nat} {b b' : DBlk} (hb : L[j]? = some b) (h1 : b.ver ≤ b'.ver) (h2 : b.clen ≤ b'.clen) (h3 : b.ver = b'.ver → b.clen = b'.clen) (h4 : NExt b b' := by constructor) : Ext L (L.set j b') := fun i c hc => by
  rw [List.getElem?_set]
  by_cases hij : j = i
  · subst hij
    rw [hb] at hc; cases hc
    exact ⟨b', by simp [(List.getElem?_eq_some_iff.1 hb).1], h1, h2, h3, h4⟩
  · rw [if_neg hij]; exact ⟨c, hc, Nat.le_refl _, Nat.le_refl _, fun _ => rfl, .refl _⟩
theorem Ext.len {L L' : List DBlk} (h : Ext L L') : L.length ≤ L'.length := by
  rcases Nat.lt_or_ge L'.length L.length with hl | hl
  · exfalso
    obtain ⟨b', k, _⟩ := h L'.length _ (List.getElem?_eq_getElem hl)
    have := (List.getElem?_eq_some_iff.1 k).1
    omega
  · exact hl
theorem InnOk.ext {L L' : List DBlk} (he : Ext L L') {j c k len : Nat} (h : InnOk L j c k len) : InnOk L' j c k len := by
  refine ⟨h.1, ?_⟩
  rcases h.2 with ⟨n, v, h1⟩ | ⟨cols, fl, v, inn, idx, h1, h2, h3, h4⟩
  · obtain ⟨b', k1, _, _, _, k5⟩ := he j _ h1
    cases k5; exact .inl ⟨_, _, k1⟩
  · obtain ⟨b', k1, _, _, _, k5⟩ := he j _ h1
    cases k5 with
    | gone => exact .inl ⟨_, _, k1⟩
    | nest _ cols' _ fl' _ v' hl h =>
      obtain ⟨inn', idx', g1, g2, g3⟩ := h c inn idx h2
      exact .inr ⟨cols', fl', v', inn', idx', k1, g1, by omega, by rw [g3 k h3]; exact h4⟩
theorem DV.Ok.ext {F : Fr} {L L' : List DBlk} (he : Ext L L') : ∀ (x : DV), x.Ok F L → x.Ok F L' := by
  intro x
  induction x using DV.rec (motive_2 := fun xs => DVs.Ok F L xs → DVs.Ok F L' xs) with
  | ptr j off ver alen =>
    rintro ⟨b, h1, h2, h3, h4, h5⟩
    obtain ⟨b', k1, k2, k3, k4, _⟩ := he j b h1
    exact ⟨b', k1, by omega, h3, by omega, fun h => by have := h5 (by omega); have := k4 (by omega); omega⟩
  | own j ver len =>
    rintro ⟨b, h1, h2, h3, h4, h5⟩
    obtain ⟨b', k1, k2, k3, k4, _⟩ := he j b h1
    exact ⟨b', k1, by omega, by omega, fun h => by have := h4 (by omega); have := k4 (by omega); omega, h5⟩
  | slc j off ver alen len =>
    rintro ⟨b, h1, h2, h3, h4, h5, h6⟩
    obtain ⟨b', k1, k2, k3, k4, _⟩ := he j b h1
    exact ⟨b', k1, by omega, h3, by omega, fun h => by have := h5 (by omega); have := k4 (by omega); omega, h6⟩
  | nest j ver es len =>
    rintro ⟨b, h1, h2, h3, h4, h5⟩
    obtain ⟨b', k1, k2, k3, k4, _⟩ := he j b h1
    exact ⟨b', k1, by omega, by omega, fun h => by have := h4 (by omega); have := k4 (by omega); omega, h5⟩
  | ncell j ver es len i c =>
    rintro ⟨b, h1, h2, h3, h4, h5, h6⟩
    obtain ⟨b', k1, k2, k3, k4, _⟩ := he j b h1
    exact ⟨b', k1, by omega, by omega, fun h => by have := h4 (by omega); have := k4 (by omega); omega, h5, h6⟩
  | nsb j ver es lo len alen =>
    rintro ⟨b, h1, h2, h3, h4, h5⟩
    obtain ⟨b', k1, k2, k3, k4, _⟩ := he j b h1
    exact ⟨b', k1, by omega, by omega, fun h => by have := h4 (by omega); have := k4 (by omega); omega, h5⟩
  | inn j c k len => exact fun h => InnOk.ext he h
  | icell j c k i len => exact fun h => ⟨InnOk.ext he h.1, h.2⟩
  | fn f cs ih => exact ih
  | agg cs ih => exact ih
  | tup cs ih => exact ih
  | bptr p cs ih => rintro ⟨h1, h2⟩; exact ⟨h1, ih h2⟩
  | nil => rename_i h; trivial
  | cons c cs ih1 ih2 => rename_i h; exact ⟨ih1 h.1, ih2 h.2⟩
  | bslc s r => exact id
  | hslc s n => exact id
  | rns n cols => exact id
  | _ => exact fun _ => trivial
def Col.Ok (n : Nat) (fl : Bool) : Col → Prop
  | .pl r => r.len = n
  | .sl inn idx => idx.length = n ∧ fl = false ∧ (∀ k ∈ idx, k ≤ inn.n) ∧ ∀ k, (inn.get k).len ≤ maxN
def DBlk.Ok (F : Fr) (L : List DBlk) : DBlk → Prop
  | .row r _ => r.len ≤ maxN
  | .gen cs fl _ => DVs.Ok F L cs ∧ (fl = true → ∀ c ∈ cs, c.flat = true)
  | .nest cols fl _ => colsN cols ≤ maxN ∧ 0 < cols.length ∧ ∀ col ∈ cols, col.Ok (colsN cols) fl
  | .gone _ _ => True
theorem DBlk.Ok.ext {F : Fr} {L L' : List DBlk} (he : Ext L L') {b : DBlk} (h : b.Ok F L) : b.Ok F L' := by
  cases b with
  | row r v => exact h
  | gen cs fl v => exact ⟨DVs.ok_iff.2 fun c hc => (DVs.ok_iff.1 h.1 c hc).ext he, h.2⟩
  | nest cols fl v => exact h
  | gone n v => trivial
theorem Row.cells_len (r : Row) : r.cells.length = r.len := by cases r <;> simp [Row.cells, Row.len]
theorem Row.cells_flat (r : Row) : ∀ c ∈ r.cells, c.isFlat = true := by
  cases r <;> simp only [Row.cells, List.mem_map] <;> rintro c ⟨x, _, rfl⟩ <;> rfl
theorem DBlk.blk_len (F : Fr) (j : Nat) (b : DBlk) : (b.blk F j).cells.length = b.clen := by
  cases b with
  | row r v => exact r.cells_len
  | gen cs fl v => simp [DBlk.blk, DBlk.clen]
  | nest cols fl v => simp [DBlk.blk, DBlk.clen]
  | gone n v => simp [DBlk.blk, DBlk.clen]
theorem DBlk.blk_own (F : Fr) (j : Nat) (b : DBlk) : (b.blk F j).own = true := by cases b <;> rfl
structure St (F : Fr) (L : List DBlk) (H : Heap) : Prop where
  blkp : ∀ j c k B, blkAt F L j c k = some B → H[F.pl j c k]? = some B
  inj : ∀ j c k B j' c' k' B', blkAt F L j c k = some B → blkAt F L j' c' k' = some B' → F.pl j c k = F.pl j' c' k' → j = j' ∧ c = c' ∧ k = k'
  zone : ∀ j c k B, blkAt F L j c k = some B → F.pl j c k ∈ F.ids ∨ F.H0.length ≤ F.pl j c k
  ltp : ∀ j n v, L[j]? = some (.gone n v) → ∀ c k, F.pl j c k < H.length
  ag : F.agree H
  ok : ∀ (j : Nat) (b : DBlk), L[j]? = some b → b.Ok F L
  own : ∀ (i : Nat) (B : Blk), H[i]? = some B → i ∈ F.ids ∨ F.H0.length ≤ i → B.own = true
  ws : WS H
structure FrLe (F F' : Fr) (L : List DBlk) : Prop where
  base : ∃ g, F' = F.wa g
  main : ∀ j, j < L.length → F'.pl j 0 0 = F.pl j 0 0
  inn : ∀ (j : Nat) (cols : List Col) (fl : Bool) (v c : Nat) (inn : NRow) (idx : List Nat) (k : Nat), L[j]? = some (.nest cols fl v) → cols[c]? = some (.sl inn idx) → k < inn.n → F'.pl j (c + 1) k = F.pl j (c + 1) k
  gone : ∀ j n v c k : Nat, L[j]? = some (.gone n v) → F'.pl j c k = F.pl j c k
theorem FrLe.refl (F : Fr) (L : List DBlk) : FrLe F F L := ⟨⟨F.pl, rfl⟩, fun _ _ => rfl, fun _ _ _ _ _ _ _ _ _ _ _ => rfl, fun _ _ _ _ _ _ => rfl⟩
theorem FrLe.trans {F F' F'' : Fr} {L L' : List DBlk} (h : FrLe F F' L) (he : Ext L L') (h' : FrLe F' F'' L') : FrLe F F'' L := by
  obtain ⟨⟨g, rfl⟩, m1, i1, o1⟩ := h
  obtain ⟨⟨g', rfl⟩, m2, i2, o2⟩ := h'
  refine ⟨⟨g', rfl⟩, fun j hj => (m2 j (Nat.lt_of_lt_of_le hj he.len)).trans (m1 j hj), fun j cols fl v c inn idx k h1 h2 h3 => ?_, fun j n v c k h1 => ?_⟩
  · obtain ⟨b', k1, _, _, _, k5⟩ := he j _ h1
    refine Eq.trans ?_ (i1 j cols fl v c inn idx k h1 h2 h3)
    cases k5 with
    | gone => exact o2 _ _ _ _ _ k1
    | nest _ cols' _ fl' _ v' hl h =>
      obtain ⟨inn', idx', g1, g2, g3⟩ := h c inn idx h2
      exact i2 j cols' fl' v' c inn' idx' k k1 g1 (by omega)
  · obtain ⟨b', k1, _, _, _, k5⟩ := he j _ h1
    cases k5
    exact (o2 _ _ _ _ _ k1).trans (o1 _ _ _ _ _ h1)
section
variable {F F' : Fr} {L : List DBlk} {H : Heap}
theorem FrLe.innav (h : FrLe F F' L) {j c k len : Nat} (hk : InnOk L j c (k + 1) len) : F'.pl j (c + 1) k = F.pl j (c + 1) k := by
  rcases hk.2 with ⟨n, v, h1⟩ | ⟨cols, fl, v, inn, idx, h1, h2, h3, h4⟩
  · exact h.gone _ _ _ _ _ h1
  · exact h.inn j cols fl v c inn idx k h1 h2 (by omega)
theorem FrLe.av (h : FrLe F F' L) : ∀ (x : DV), x.Ok F L → x.av F' = x.av F := by
  have hρ : F'.ρ = F.ρ := by obtain ⟨⟨g, rfl⟩, _⟩ := h; rfl
  have hj : ∀ j b, L[j]? = some b → F'.abs j = F.abs j := fun j b hb => h.main j (List.getElem?_eq_some_iff.1 hb).1
  intro x
  induction x using DV.rec (motive_2 := fun xs => DVs.Ok F L xs → DVs.av F' xs = DVs.av F xs) with
  | ptr j off ver alen => rintro ⟨b, h1, _⟩; simp only [DV.av, hj j b h1]
  | own j ver len => rintro ⟨b, h1, _⟩; simp only [DV.av, hj j b h1]
  | slc j off ver alen len => rintro ⟨b, h1, _⟩; simp only [DV.av, hj j b h1]
  | nest j ver es len => rintro ⟨b, h1, _⟩; simp only [DV.av, hj j b h1]
  | ncell j ver es len i c => rintro ⟨b, h1, _⟩; simp only [DV.av, hj j b h1]
  | nsb j ver es lo len alen => rintro ⟨b, h1, _⟩; simp only [DV.av, hj j b h1]
  | inn j c k len =>
    intro hk
    cases k with
    | zero => rfl
    | succ k => simp only [DV.av, h.innav hk]
  | icell j c k i len =>
    rintro ⟨hk, h1, _⟩
    obtain ⟨k, rfl⟩ : ∃ m, k = m + 1 := ⟨k - 1, by omega⟩
    simp only [DV.av, Nat.add_sub_cancel, h.innav hk]
  | fn f cs ih => intro hx; simp only [DV.av, ih hx]
  | agg cs ih => intro hx; simp only [DV.av, ih hx]
  | tup cs ih => intro hx; simp only [DV.av, ih hx]
  | bptr p cs ih => intro hx; simp only [DV.av, hρ]
  | nil => rename_i hx; rfl
  | cons c cs ih1 ih2 => rename_i hx; simp only [DVs.av, ih1 hx.1, ih2 hx.2]
  | bslc s r => intro hx; simp only [DV.av, hρ]
  | hslc s n => intro hx; simp only [DV.av, hρ]
  | rns n cols => intro hx; simp only [DV.av, hρ]
  | _ => intro hx; rfl
theorem FrLe.avs (h : FrLe F F' L) {xs : List DV} (hx : DVs.Ok F L xs) : DVs.av F' xs = DVs.av F xs := by
  have := h.av (.agg xs) hx
  simpa [DV.av] using this
theorem FrLe.ok (h : FrLe F F' L) {L' : List DBlk} : ∀ (x : DV), x.Ok F L → x.Ok F L' → x.Ok F' L' := by
  have hρ : F'.ρ = F.ρ := by obtain ⟨⟨g, rfl⟩, _⟩ := h; rfl
  have ha : ∀ K, F'.agree K ↔ F.agree K := fun K => by obtain ⟨⟨g, rfl⟩, _⟩ := h; exact Iff.rfl
  intro x
  induction x using DV.rec (motive_2 := fun xs => DVs.Ok F L xs → DVs.Ok F L' xs → DVs.Ok F' L' xs) with
  | fn f cs ih => exact ih
  | agg cs ih => exact ih
  | tup cs ih => exact ih
  | bptr p cs ih =>
    intro h1 h2
    refine ⟨fun K hK => ?_, ih h1.2 h2.2⟩
    rw [hρ, h.avs h1.2]
    exact h2.1 K ((ha K).1 hK)
  | nil => rename_i h1 h2; trivial
  | cons c cs ih1 ih2 => rename_i h1 h2; exact ⟨ih1 h1.1 h2.1, ih2 h1.2 h2.2⟩
  | bslc s r => intro h1 h2 K hK; rw [hρ]; exact h2 K ((ha K).1 hK)
  | hslc s n => intro h1 h2 K hK; rw [hρ]; exact h2 K ((ha K).1 hK)
  | rns n cols => intro h1 h2 K hK; exact (h2 K ((ha K).1 hK)).congr hρ
  | _ => exact fun _ h => h
theorem FrLe.oks (h : FrLe F F' L) {xs : List DV} (hx : DVs.Ok F L xs) : DVs.Ok F' L xs := h.ok (.agg xs) hx hx
theorem FrLe.oks' (h : FrLe F F' L) {L' : List DBlk} (he : Ext L L') {xs : List DV} (hx : DVs.Ok F L xs) : DVs.Ok F' L' xs := h.ok (.agg xs) hx (DV.Ok.ext he (.agg xs) hx)
theorem Lb_ {j : Nat} {b : DBlk} (hn : ∀ n v, b ≠ .gone n v) : b.at' F j 0 0 = some (b.blk F j) := by
  cases b with
  | row r v => rfl
  | gen cs fl v => rfl
  | nest cols fl v => rfl
  | gone n v => exact (hn n v rfl).elim
theorem Ci_ {j c k : Nat} {cols : List Col} {fl : Bool} {v : Nat} {inn : NRow} {idx : List Nat} (h : cols[c]? = some (.sl inn idx)) (hk : k < inn.n) : (DBlk.nest cols fl v).at' F j (c + 1) k = some ⟨(inn.get (k + 1)).cells, true, 1, true⟩ := by
  simp only [DBlk.at', h]; rw [if_pos hk]
theorem E4_ {j c k : Nat} {b : DBlk} {B : Blk} (h : b.at' F j c k = some B) : (c = 0 ∧ k = 0 ∧ B = b.blk F j ∧ ∀ n v, b ≠ .gone n v) ∨ ∃ cols fl v c' inn idx, b = .nest cols fl v ∧ c = c' + 1 ∧ cols[c']? = some (.sl inn idx) ∧ k < inn.n ∧ B = ⟨(inn.get (k + 1)).cells, true, 1, true⟩ := by
  cases b with
  | row r v =>
    simp only [DBlk.at'] at h
    split at h
    · rename_i hc; cases h; exact .inl ⟨hc.1, hc.2, rfl, fun _ _ => by simp⟩
    · cases h
  | gen cs fl v =>
    simp only [DBlk.at'] at h
    split at h
    · rename_i hc; cases h; exact .inl ⟨hc.1, hc.2, rfl, fun _ _ => by simp⟩
    · cases h
  | gone n v => cases h
  | nest cols fl v =>
    cases c with
    | zero =>
      simp only [DBlk.at'] at h
      split at h
      · rename_i hc; cases h; exact .inl ⟨rfl, hc, rfl, fun _ _ => by simp⟩
      · cases h
    | succ c =>
      simp only [DBlk.at'] at h
      split at h
      · rename_i inn idx hc
        split at h
        · rename_i hk; cases h; exact .inr ⟨cols, fl, v, c, inn, idx, rfl, rfl, hc, hk, rfl⟩
        · cases h
      · cases h
theorem O0_ {n : Nat} {K : Heap} (h1 : ∀ j c k B, blkAt F L j c k = some B → F.pl j c k < n) (h2 : ∀ j m v, L[j]? = some (.gone m v) → ∀ c k, F.pl j c k < n) (hag : F.agree K) (hK : K.length ≤ n) : ∀ (x : DV), x.Ok F L → (x.av F).within n = true := by
  have hj : ∀ j b, L[j]? = some b → F.abs j < n := fun j b h => by
    cases b with
    | gone m v => exact h2 j m v h 0 0
    | _ => exact h1 j 0 0 _ (by rw [Am_ h]; exact Lb_ fun _ _ => by simp)
  have hi : ∀ j c k len, InnOk L j c (k + 1) len → F.pl j (c + 1) k < n := fun j c k len h => by
    rcases h.2 with ⟨m, v, g1⟩ | ⟨cols, fl, v, inn, idx, g1, g2, g3, _⟩
    · exact h2 j m v g1 _ _
    · exact h1 j (c + 1) k _ (by rw [Am_ g1]; exact Ci_ g2 (by omega))
  intro x
  induction x using DV.rec (motive_2 := fun xs => DVs.Ok F L xs → AVs.within n (DVs.av F xs) = true) with
  | ptr j off ver alen => rintro ⟨b, h1, _⟩; simp [DV.av, AV.within, hj j b h1]
  | own j ver len => rintro ⟨b, h1, _⟩; simp [DV.av, AV.within, hj j b h1]
  | slc j off ver alen len => rintro ⟨b, h1, _⟩; simp [DV.av, AV.within, hj j b h1]
  | nest j ver es len => rintro ⟨b, h1, _⟩; simp [DV.av, AV.within, hj j b h1]
  | ncell j ver es len i c => rintro ⟨b, h1, _⟩; simp [DV.av, AV.within, hj j b h1]
  | nsb j ver es lo len alen => rintro ⟨b, h1, _⟩; simp [DV.av, AV.within, hj j b h1]
  | inn j c k len =>
    intro h
    cases k with
    | zero => rfl
    | succ k => simp [DV.av, AV.within, hi j c k len h]
  | icell j c k i len =>
    rintro ⟨h, hk, _⟩
    obtain ⟨m, rfl⟩ : ∃ m, k = m + 1 := ⟨k - 1, by omega⟩
    simp [DV.av, AV.within, hi j c m len h]
  | fn f cs ih => intro h; simp only [DV.av, AV.within]; exact ih h
  | agg cs ih => intro h; simp only [DV.av, AV.within]; exact ih h
  | tup cs ih => intro h; simp only [DV.av, AV.within]; exact ih h
  | bslc s r =>
    intro h
    simp only [DV.av]
    rcases h K hag with ⟨e, _⟩ | ⟨p, B, e, k1, _⟩
    · rw [e]; rfl
    · rw [e]; have := (List.getElem?_eq_some_iff.1 k1).1; simp [AV.within]; omega
  | hslc s n =>
    intro h
    simp only [DV.av]
    rcases h K hag with ⟨e, _⟩ | ⟨p, B, e, k1, _⟩
    · rw [e]; rfl
    · rw [e]; have := (List.getElem?_eq_some_iff.1 k1).1; simp [AV.within]; omega
  | rns n cols =>
    intro h
    simp only [DV.av]
    rcases (h K hag).at' with ⟨e, _⟩ | ⟨p, B, e, k1, _⟩
    · rw [e]; rfl
    · rw [e]; have := (List.getElem?_eq_some_iff.1 k1).1; simp [AV.within]; omega
  | bptr p cs ih =>
    intro h
    obtain ⟨r, B, e, k1, _⟩ := h.1 K hag
    have := (List.getElem?_eq_some_iff.1 k1).1
    simp [DV.av, e, AV.within]; omega
  | nil => rename_i h; rfl
  | cons c cs ih1 ih2 => rename_i h; simp [DVs.av, AVs.within, ih1 h.1, ih2 h.2]
  | _ => intro _; rfl
theorem Aoy_ {j : Nat} {cols : List Col} {fl : Bool} {v : Nat} (hb : L[j]? = some (.nest cols fl v)) (hok : (DBlk.nest cols fl v).Ok F L) {x c : Nat} {col : Col} (hx : x < colsN cols) (hc : cols[c]? = some col) : (col.cell j c x).Ok F L := by
  cases col with
  | pl r => cases r <;> trivial
  | sl inn idx =>
    obtain ⟨q1, q2, q3, q4⟩ := hok.2.2 _ (List.mem_of_getElem? hc)
    refine ⟨q4 _, .inr ⟨cols, fl, v, inn, idx, hb, hc, ?_, rfl⟩⟩
    have hlt : x < idx.length := by rw [q1]; exact hx
    rw [Ao_ _ _ hlt]
    exact q3 _ (List.getElem_mem hlt)
theorem R6_ {n : Nat} (hw : ∀ (x : DV), x.Ok F L → (x.av F).within n = true) {j c k : Nat} {b : DBlk} {B : Blk} (hb : L[j]? = some b) (hok : b.Ok F L) (h : b.at' F j c k = some B) : ∀ a ∈ B.cells, a.within n = true := by
  intro a ha
  rcases E4_ h with ⟨_, _, rfl, _⟩ | ⟨_, _, _, _, inn, _, _, _, _, _, rfl⟩
  · cases b with
    | row r v => exact P0_ (r.cells_flat a ha)
    | gen cs fl v =>
      simp only [DBlk.blk, DVs.av_eq, List.mem_map] at ha
      obtain ⟨x, hx, rfl⟩ := ha
      exact hw x (DVs.ok_iff.1 hok.1 x hx)
    | gone m v =>
      have := List.eq_of_mem_replicate ha
      rw [this]; rfl
    | nest cols fl v =>
      simp only [DBlk.blk, Ac_, List.mem_map, List.mem_range] at ha
      obtain ⟨p, hp, rfl⟩ := ha
      have hc : p % cols.length < cols.length := Nat.mod_lt _ hok.2.1
      rw [List.getElem?_eq_getElem hc]
      exact hw _ (Aoy_ hb hok (Nat.div_lt_of_lt_mul (by rw [Nat.mul_comm]; exact hp)) (List.getElem?_eq_getElem hc))
  · exact P0_ (Row.cells_flat _ a ha)
theorem Vy_ {j c k : Nat} {b : DBlk} {B : Blk} (h : b.at' F j c k = some B) : B.own = true := by
  rcases E4_ h with ⟨_, _, rfl, _⟩ | ⟨_, _, _, _, _, _, _, _, _, _, rfl⟩
  · exact DBlk.blk_own F j b
  · rfl
theorem St.blk (hs : St F L H) {j : Nat} {b : DBlk} (hb : L[j]? = some b) (hn : ∀ n v, b ≠ .gone n v) : H[F.abs j]? = some (b.blk F j) :=
  hs.blkp j 0 0 _ (by rw [Am_ hb]; exact Lb_ hn)
theorem St.row (hs : St F L H) {j : Nat} {r : Row} {v : Nat} (hb : L[j]? = some (.row r v)) : H[F.abs j]? = some ⟨r.cells, true, 1, true⟩ := hs.blk hb fun _ _ => by simp
theorem St.gen (hs : St F L H) {j : Nat} {cs : List DV} {fl : Bool} {v : Nat} (hb : L[j]? = some (.gen cs fl v)) : H[F.abs j]? = some ⟨DVs.av F cs, true, 1, fl⟩ := hs.blk hb fun _ _ => by simp
theorem St.nest (hs : St F L H) {j : Nat} {cols : List Col} {fl : Bool} {v : Nat} (hb : L[j]? = some (.nest cols fl v)) : H[F.abs j]? = some ⟨Ac_ F j cols, true, cols.length, fl⟩ := hs.blk hb fun _ _ => by simp
theorem St.inn (hs : St F L H) {j c k : Nat} {cols : List Col} {fl : Bool} {v : Nat} {inn : NRow} {idx : List Nat} (hb : L[j]? = some (.nest cols fl v)) (hc : cols[c]? = some (.sl inn idx)) (hk : k < inn.n) :
    H[F.pl j (c + 1) k]? = some ⟨(inn.get (k + 1)).cells, true, 1, true⟩ := hs.blkp j (c + 1) k _ (by rw [Am_ hb]; exact Ci_ hc hk)
theorem St.lt (hs : St F L H) {j : Nat} {b : DBlk} (hb : L[j]? = some b) : F.abs j < H.length := by
  cases b with
  | gone n v => exact hs.ltp j n v hb 0 0
  | _ => exact (List.getElem?_eq_some_iff.1 (hs.blk hb fun _ _ => by simp)).1
theorem St.out (hs : St F L H) {j c k : Nat} {B : Blk} (h : blkAt F L j c k = some B) {i : Nat} (hi : i < F.H0.length) (hn : i ∉ F.ids) : F.pl j c k ≠ i := by
  intro e
  rcases hs.zone j c k B h with h | h
  · exact hn (e ▸ h)
  · omega
theorem St.re (hs : St F L H) {F1 : Fr} {L1 : List DBlk} (φ : Nat → Nat → Nat → Nat × Nat × Nat)
    (hφ : ∀ j c k B, blkAt F1 L1 j c k = some B → blkAt F L (φ j c k).1 (φ j c k).2.1 (φ j c k).2.2 = some B ∧ F1.pl j c k = F.pl (φ j c k).1 (φ j c k).2.1 (φ j c k).2.2)
    (hinj : ∀ j c k B j' c' k' B', blkAt F1 L1 j c k = some B → blkAt F1 L1 j' c' k' = some B' → φ j c k = φ j' c' k' → j = j' ∧ c = c' ∧ k = k')
    (hbase : ∃ g, F1 = F.wa g) (hlt : ∀ j n v, L1[j]? = some (.gone n v) → ∀ c k, F1.pl j c k < H.length) (hok : ∀ (j : Nat) (b : DBlk), L1[j]? = some b → b.Ok F1 L1) : St F1 L1 H := by
  obtain ⟨g, rfl⟩ := hbase
  refine ⟨fun j c k B h => ?_, fun j c k B j' c' k' B' h h' he => ?_, fun j c k B h => ?_, hlt, hs.ag, hok, hs.own, hs.ws⟩
  · obtain ⟨h1, h2⟩ := hφ j c k B h
    rw [h2]; exact hs.blkp _ _ _ _ h1
  · obtain ⟨h1, h2⟩ := hφ j c k B h
    obtain ⟨g1, g2⟩ := hφ j' c' k' B' h'
    rw [h2, g2] at he
    obtain ⟨e1, e2, e3⟩ := hs.inj _ _ _ _ _ _ _ _ h1 g1 he
    exact hinj _ _ _ _ _ _ _ _ h h' (Prod.ext e1 (Prod.ext e2 e3))
  · obtain ⟨h1, h2⟩ := hφ j c k B h
    rw [h2]; exact hs.zone _ _ _ _ h1
theorem St.set1 (hs : St F L H) {j c0 k0 : Nat} {b' : DBlk} {B0 B' : Blk} (h0 : blkAt F L j c0 k0 = some B0) (hsame : ∀ c k, ¬ (c = c0 ∧ k = k0) → b'.at' F j c k = blkAt F L j c k) (hnew : b'.at' F j c0 k0 = some B')
    (he : Ext L (L.set j b')) (hok : b'.Ok F (L.set j b')) (hgone : ∀ n v, b' ≠ .gone n v) : St F (L.set j b') (H.set (F.pl j c0 k0) B') := by
  have hjl : j < L.length := by
    rcases Nat.lt_or_ge j L.length with h | h
    · exact h
    · simp [blkAt, List.getElem?_eq_none h] at h0
  have hget : ∀ i, (L.set j b')[i]? = if i = j then some b' else L[i]? := fun i => by
    rw [List.getElem?_set]
    by_cases hij : j = i
    · subst hij; simp [hjl]
    · rw [if_neg hij, if_neg (fun e => hij e.symm)]
  have hat : ∀ i c k, ¬ (i = j ∧ c = c0 ∧ k = k0) → blkAt F (L.set j b') i c k = blkAt F L i c k := fun i c k hn => by
    by_cases hij : i = j
    · subst hij
      rw [← hsame c k (fun e => hn ⟨rfl, e⟩)]
      simp only [blkAt, hget, if_true]
    · simp only [blkAt, hget, if_neg hij]
  have hnew' : blkAt F (L.set j b') j c0 k0 = some B' := by simp only [blkAt, hget, if_true]; exact hnew
  have hpl : F.pl j c0 k0 < H.length := (List.getElem?_eq_some_iff.1 (hs.blkp _ _ _ _ h0)).1
  have live : ∀ i c k B, blkAt F (L.set j b') i c k = some B → ∃ B1, blkAt F L i c k = some B1 := fun i c k B h => by
    by_cases hq : i = j ∧ c = c0 ∧ k = k0
    · obtain ⟨rfl, rfl, rfl⟩ := hq; exact ⟨_, h0⟩
    · exact ⟨B, by rw [← hat i c k hq]; exact h⟩
  have K1 : ∀ i c k B, blkAt F (L.set j b') i c k = some B → (H.set (F.pl j c0 k0) B')[F.pl i c k]? = some B := fun i c k B h => by
    by_cases hq : i = j ∧ c = c0 ∧ k = k0
    · obtain ⟨rfl, rfl, rfl⟩ := hq
      rw [hnew'] at h; cases h
      rw [List.getElem?_set, if_pos rfl, if_pos hpl]
    · rw [hat i c k hq] at h
      rw [List.getElem?_set, if_neg (fun e => hq (by obtain ⟨e1, e2, e3⟩ := hs.inj _ _ _ _ _ _ _ _ h0 h e; exact ⟨e1.symm, e2.symm, e3.symm⟩))]
      exact hs.blkp _ _ _ _ h
  have K2 : ∀ i c k B i' c' k' B1, blkAt F (L.set j b') i c k = some B → blkAt F (L.set j b') i' c' k' = some B1 → F.pl i c k = F.pl i' c' k' → i = i' ∧ c = c' ∧ k = k' := fun i c k B i' c' k' B1 h h' e => by
    obtain ⟨B1, h1⟩ := live _ _ _ _ h
    obtain ⟨B2, h2⟩ := live _ _ _ _ h'
    exact hs.inj _ _ _ _ _ _ _ _ h1 h2 e
  have K3 : ∀ i c k B, blkAt F (L.set j b') i c k = some B → F.pl i c k ∈ F.ids ∨ F.H0.length ≤ F.pl i c k := fun i c k B h => by
    obtain ⟨B1, h1⟩ := live _ _ _ _ h
    exact hs.zone _ _ _ _ h1
  have K4 : ∀ i n v, (L.set j b')[i]? = some (.gone n v) → ∀ c k, F.pl i c k < (H.set (F.pl j c0 k0) B').length := fun i n v h c k => by
    rw [hget] at h
    split at h
    · cases h; exact (hgone n v rfl).elim
    · simpa using hs.ltp i n v h c k
  have K5 : ∀ i, i < F.H0.length → i ∉ F.ids → (H.set (F.pl j c0 k0) B')[i]? = F.H0[i]? := fun i hi hn => by
    rw [List.getElem?_set, if_neg (hs.out h0 hi hn)]; exact hs.ag.2 i hi hn
  have K6 : ∀ (i : Nat) (b : DBlk), (L.set j b')[i]? = some b → b.Ok F (L.set j b') := fun i b hb => by
    rw [hget] at hb
    split at hb
    · cases hb; exact hok
    · exact (hs.ok i b hb).ext he
  have K7 : ∀ (i : Nat) (B : Blk), (H.set (F.pl j c0 k0) B')[i]? = some B → i ∈ F.ids ∨ F.H0.length ≤ i → B.own = true := fun i B hB hi => by
    rw [List.getElem?_set] at hB
    by_cases e : F.pl j c0 k0 = i
    · rw [if_pos e, if_pos (by omega)] at hB; cases hB; exact Vy_ hnew
    · rw [if_neg e] at hB; exact hs.own i B hB hi
  have hag : F.agree (H.set (F.pl j c0 k0) B') := ⟨by simpa using hs.ag.1, K5⟩
  refine ⟨K1, K2, K3, K4, hag, K6, K7, fun i B hB a ha => ?_⟩
  rw [List.getElem?_set] at hB
  by_cases e : F.pl j c0 k0 = i
  · rw [if_pos e, if_pos (by omega)] at hB; cases hB
    refine R6_ (O0_ (fun i c k B h => (List.getElem?_eq_some_iff.1 (K1 i c k B h)).1) K4 hag (Nat.le_refl _)) (j := j) (b := b') (by rw [hget, if_pos rfl]) (K6 j b' (by rw [hget, if_pos rfl])) hnew a ha
  · rw [if_neg e] at hB
    rw [List.length_set]; exact hs.ws i B hB a ha
theorem St.set (hs : St F L H) {j : Nat} {b b' : DBlk} (hb : L[j]? = some b) (he : Ext L (L.set j b')) (hok : b'.Ok F (L.set j b'))
    (hk : (∃ r v r' v', b = .row r v ∧ b' = .row r' v') ∨ (∃ cs fl v cs' fl' v', b = .gen cs fl v ∧ b' = .gen cs' fl' v') := by first | exact Or.inl ⟨_, _, _, _, rfl, rfl⟩ | exact Or.inr ⟨_, _, _, _, _, _, rfl, rfl⟩) :
    St F (L.set j b') (H.set (F.abs j) (b'.blk F j)) := by
  rcases hk with ⟨r, v, r', v', rfl, rfl⟩ | ⟨cs, fl, v, cs', fl', v', rfl, rfl⟩
  · refine hs.set1 (B0 := (DBlk.row r v).blk F j) (by rw [Am_ hb]; rfl) (fun c k hn => ?_) rfl he hok (fun _ _ => by simp)
    rw [Am_ hb]; simp only [DBlk.at']; rw [if_neg hn, if_neg hn]
  · refine hs.set1 (B0 := (DBlk.gen cs fl v).blk F j) (by rw [Am_ hb]; rfl) (fun c k hn => ?_) rfl he hok (fun _ _ => by simp)
    rw [Am_ hb]; simp only [DBlk.at']; rw [if_neg hn, if_neg hn]
def Fr.new (F : Fr) (n i : Nat) : Fr := F.wa fun j c k => if j = n then i else F.pl j c k
theorem Fr.new_le (F : Fr) {L : List DBlk} (i : Nat) : FrLe F (F.new L.length i) L := by
  have h : ∀ j b, L[j]? = some b → j ≠ L.length := fun j b hb => by have := (List.getElem?_eq_some_iff.1 hb).1; omega
  refine ⟨⟨_, rfl⟩, fun j hj => ?_, fun j cols fl v c inn idx k h1 _ _ => ?_, fun j n v c k h1 => ?_⟩
  · simp only [Fr.new, Fr.wa]; rw [if_neg (by omega)]
  · simp only [Fr.new, Fr.wa]; rw [if_neg (h j _ h1)]
  · simp only [Fr.new, Fr.wa]; rw [if_neg (h j _ h1)]
theorem Fr.new_abs (F : Fr) (n i : Nat) : (F.new n i).abs n = i := by simp [Fr.new, Fr.wa, Fr.abs]
theorem FrLe.blk (h : FrLe F F' L) {j : Nat} {b : DBlk} (hb : L[j]? = some b) (hok : b.Ok F L) : b.blk F' j = b.blk F j := by
  cases b with
  | row r v => rfl
  | gen cs fl v => simp only [DBlk.blk, h.avs hok.1]
  | gone n v => rfl
  | nest cols fl v =>
    simp only [DBlk.blk]
    congr 1
    unfold Ac_
    refine List.map_congr_left fun p hp => ?_
    rw [List.mem_range] at hp
    have hc : p % cols.length < cols.length := Nat.mod_lt _ hok.2.1
    rw [List.getElem?_eq_getElem hc]
    simp only
    have hcol := hok.2.2 _ (List.getElem_mem hc)
    have hi : p / cols.length < colsN cols := Nat.div_lt_of_lt_mul (by rw [Nat.mul_comm]; exact hp)
    cases hcc : cols[p % cols.length] with
    | pl r => exact h.av _ (by cases r <;> trivial)
    | sl inn idx =>
      rw [hcc] at hcol
      obtain ⟨q1, q2, q3, q4⟩ := hcol
      simp only [Col.cell]
      refine h.av _ ⟨q4 _, .inr ⟨cols, fl, v, inn, idx, hb, by rw [List.getElem?_eq_getElem hc, hcc], ?_, rfl⟩⟩
      have hlt : p / cols.length < idx.length := by rw [q1]; exact hi
      rw [Ao_ _ _ hlt]
      exact q3 _ (List.getElem_mem hlt)
theorem FrLe.at_eq (h : FrLe F F' L) {j c k : Nat} {b : DBlk} (hb : L[j]? = some b) (hok : b.Ok F L) : b.at' F' j c k = b.at' F j c k := by
  cases b with
  | row r v => rfl
  | gone n v => rfl
  | gen cs fl v =>
    simp only [DBlk.at']
    split
    · rw [h.blk hb hok]
    · rfl
  | nest cols fl v =>
    cases c with
    | zero =>
      simp only [DBlk.at']
      split
      · rw [h.blk hb hok]
      · rfl
    | succ c => rfl
theorem FrLe.pl_eq (h : FrLe F F' L) {j c k : Nat} {B : Blk} (hb : blkAt F L j c k = some B) : F'.pl j c k = F.pl j c k := by
  unfold blkAt at hb
  split at hb
  · rename_i b hbj
    rcases E4_ hb with ⟨rfl, rfl, _⟩ | ⟨cols, fl, v, c', inn, idx, rfl, rfl, h2, h3, _⟩
    · exact h.main j (List.getElem?_eq_some_iff.1 hbj).1
    · exact h.inn j cols fl v c' inn idx k hbj h2 h3
  · cases hb
theorem St.later (hs : St F L H) (h : FrLe F F' L) : St F' L H := by
  have key : ∀ j c k B, blkAt F' L j c k = some B → blkAt F L j c k = some B ∧ F'.pl j c k = F.pl j c k := fun j c k B hb => by
    have h1 : blkAt F L j c k = some B := by
      unfold blkAt at hb ⊢
      split at hb
      · rename_i b hbj
        rw [h.at_eq hbj (hs.ok j b hbj)] at hb; exact hb
      · cases hb
    exact ⟨h1, h.pl_eq h1⟩
  refine hs.re (F1 := F') (L1 := L) (fun j c k => (j, c, k)) key (fun j c k B j' c' k' B' _ _ e => by simpa using e) h.base (fun j n v hj c k => ?_) fun j b hb => ?_
  · rw [h.gone j n v c k hj]; exact hs.ltp j n v hj c k
  · have := hs.ok j b hb
    cases b with
    | gen cs fl v => exact ⟨h.oks this.1, this.2⟩
    | row r v => exact this
    | nest cols fl v => exact this
    | gone n v => trivial
theorem St.push (hs : St F L H) {b : DBlk} (hk : (∃ r v, b = .row r v) ∨ (∃ cs fl v, b = .gen cs fl v) ∨ (∃ cols fl v, b = .nest cols fl v ∧ ∀ (c : Nat) (inn : NRow) (idx : List Nat), cols[c]? = some (.sl inn idx) → inn.n = 0))
    (hok : b.Ok (F.new L.length H.length) (L ++ [b])) : St (F.new L.length H.length) (L ++ [b]) (H ++ [b.blk (F.new L.length H.length) L.length]) := by
  have hle : FrLe F (F.new L.length H.length) L := F.new_le H.length
  have hs' := hs.later hle
  generalize hF' : F.new L.length H.length = F' at *
  have habs : F'.pl L.length 0 0 = H.length := by rw [← hF']; exact F.new_abs _ _
  have hget : ∀ j b', (L ++ [b])[j]? = some b' → (j < L.length ∧ L[j]? = some b') ∨ (j = L.length ∧ b' = b) := fun j b' h => by
    rw [List.getElem?_append] at h
    split at h
    · rename_i hj; exact .inl ⟨hj, h⟩
    · rename_i hj
      have hlt : j - L.length < [b].length := (List.getElem?_eq_some_iff.1 h).1
      simp at hlt
      have : j = L.length := by omega
      subst this
      simp at h
      exact .inr ⟨rfl, h.symm⟩
  have hnb : ∀ n v, b ≠ .gone n v := by
    rcases hk with ⟨r, v, rfl⟩ | ⟨cs, fl, v, rfl⟩ | ⟨cols, fl, v, rfl, _⟩ <;> intros <;> simp
  have hone : ∀ c k B, b.at' F' L.length c k = some B → c = 0 ∧ k = 0 ∧ B = b.blk F' L.length := fun c k B h => by
    rcases E4_ h with ⟨h1, h2, h3, _⟩ | ⟨cols, fl, v, c', inn, idx, rfl, _, h2, h3, _⟩
    · exact ⟨h1, h2, h3⟩
    · rcases hk with ⟨r, v, e⟩ | ⟨cs, fl, v, e⟩ | ⟨cols, fl, v, e, h0⟩
      · cases e
      · cases e
      · cases e
        have := h0 c' inn idx h2
        omega
  have hat : ∀ j c k B, blkAt F' (L ++ [b]) j c k = some B → (j < L.length ∧ blkAt F' L j c k = some B) ∨ (j = L.length ∧ c = 0 ∧ k = 0 ∧ B = b.blk F' L.length) := fun j c k B h => by
    unfold blkAt at h
    split at h
    · rename_i b' hb'
      rcases hget j b' hb' with ⟨h1, h2⟩ | ⟨rfl, rfl⟩
      · exact .inl ⟨h1, by rw [Am_ h2]; exact h⟩
      · exact .inr ⟨rfl, hone c k B h⟩
    · cases h
  have hlow : ∀ j c k B, blkAt F' L j c k = some B → F'.pl j c k < H.length := fun j c k B h => (List.getElem?_eq_some_iff.1 (hs'.blkp _ _ _ _ h)).1
  have K1 : ∀ j c k B, blkAt F' (L ++ [b]) j c k = some B → (H ++ [b.blk F' L.length])[F'.pl j c k]? = some B := fun j c k B h => by
    rcases hat j c k B h with ⟨h1, h2⟩ | ⟨rfl, rfl, rfl, rfl⟩
    · rw [List.getElem?_append_left (hlow _ _ _ _ h2)]; exact hs'.blkp _ _ _ _ h2
    · rw [habs]; simp
  have K2 : ∀ j c k B j' c' k' B', blkAt F' (L ++ [b]) j c k = some B → blkAt F' (L ++ [b]) j' c' k' = some B' → F'.pl j c k = F'.pl j' c' k' → j = j' ∧ c = c' ∧ k = k' := fun j c k B j' c' k' B' h h' e => by
    rcases hat j c k B h with ⟨h1, h2⟩ | ⟨rfl, rfl, rfl, rfl⟩
    · rcases hat j' c' k' B' h' with ⟨g1, g2⟩ | ⟨rfl, rfl, rfl, rfl⟩
      · exact hs'.inj _ _ _ _ _ _ _ _ h2 g2 e
      · have := hlow _ _ _ _ h2; rw [e, habs] at this; omega
    · rcases hat j' c' k' B' h' with ⟨g1, g2⟩ | ⟨rfl, rfl, rfl, rfl⟩
      · have := hlow _ _ _ _ g2; rw [← e, habs] at this; omega
      · exact ⟨rfl, rfl, rfl⟩
  have K3 : ∀ j c k B, blkAt F' (L ++ [b]) j c k = some B → F'.pl j c k ∈ F'.ids ∨ F'.H0.length ≤ F'.pl j c k := fun j c k B h => by
    rcases hat j c k B h with ⟨h1, h2⟩ | ⟨rfl, rfl, rfl, rfl⟩
    · exact hs'.zone _ _ _ _ h2
    · rw [habs]; exact .inr hs'.ag.1
  have K4 : ∀ j n v, (L ++ [b])[j]? = some (.gone n v) → ∀ c k, F'.pl j c k < (H ++ [b.blk F' L.length]).length := fun j n v h c k => by
    rcases hget j _ h with ⟨h1, h2⟩ | ⟨_, h2⟩
    · have := hs'.ltp j n v h2 c k; simp; omega
    · exact (hnb n v h2.symm).elim
  have K5 : ∀ i, i < F'.H0.length → i ∉ F'.ids → (H ++ [b.blk F' L.length])[i]? = F'.H0[i]? := fun i hi hn => by
    rw [List.getElem?_append_left (by have := hs'.ag.1; omega)]; exact hs'.ag.2 i hi hn
  have K6 : ∀ (j : Nat) (b' : DBlk), (L ++ [b])[j]? = some b' → b'.Ok F' (L ++ [b]) := fun j b' h => by
    rcases hget j b' h with ⟨h1, h2⟩ | ⟨_, rfl⟩
    · exact (hs'.ok j b' h2).ext (Ext.push _ _)
    · exact hok
  have K7 : ∀ (i : Nat) (B : Blk), (H ++ [b.blk F' L.length])[i]? = some B → i ∈ F'.ids ∨ F'.H0.length ≤ i → B.own = true := fun i B hB hi => by
    rw [List.getElem?_append] at hB
    split at hB
    · exact hs'.own i B hB hi
    · have := List.mem_of_getElem? hB
      rw [List.mem_singleton.1 this]; exact DBlk.blk_own _ _ _
  have hag : F'.agree (H ++ [b.blk F' L.length]) := ⟨by have := hs'.ag.1; simp; omega, K5⟩
  refine ⟨K1, K2, K3, K4, hag, K6, K7, fun i B hB a ha => ?_⟩
  rw [List.getElem?_append] at hB
  split at hB
  · exact Vs_ (by simp) a (hs'.ws i B hB a ha)
  · have := List.mem_of_getElem? hB
    have hBe := List.mem_singleton.1 this
    subst hBe
    have hbL : (L ++ [b])[L.length]? = some b := by simp
    exact R6_ (O0_ (fun i c k B h => (List.getElem?_eq_some_iff.1 (K1 i c k B h)).1) K4 hag (Nat.le_refl _)) hbL (K6 _ b hbL) (Lb_ hnb) a ha
theorem Al_ {j ver : Nat} {b : DBlk} (h : good L j ver = some b) : L[j]? = some b ∧ b.ver = ver := by
  unfold good at h
  split at h
  · cases h
  · split at h
    · rename_i hb
      cases h
      exact ⟨by assumption, Nat.eq_of_beq_eq_true hb⟩
    · cases h
  · cases h
theorem Ahh_ {j ver : Nat} {b : DBlk} (h : good L j ver = some b) : ∀ n v, b ≠ .gone n v := by
  unfold good at h
  split at h
  · cases h
  · rename_i b' hne hb'
    split at h
    · cases h; intro n v e; subst e; exact hne n v rfl
    · cases h
  · cases h
theorem Acd_ {j ver es : Nat} {cols : List Col} {fl : Bool} (h : goodN L j ver es = some (cols, fl)) : L[j]? = some (.nest cols fl ver) ∧ cols.length = es ∧ 1 ≤ es := by
  unfold goodN at h
  split at h
  · rename_i cols' fl' v hg
    split at h
    · rename_i h1 h2
      cases h
      obtain ⟨g1, g2⟩ := Al_ hg
      simp only [DBlk.ver] at g2
      subst g2
      exact ⟨g1, Nat.eq_of_beq_eq_true h1, Nat.le_of_ble_eq_true h2⟩
    · cases h
  · cases h
theorem Ld_ {j c : Nat} {inn : NRow} {idx : List Nat} (h : innAt L j c = some (inn, idx)) : ∃ cols fl v, L[j]? = some (.nest cols fl v) ∧ cols[c]? = some (.sl inn idx) := by
  unfold innAt at h
  split at h
  · rename_i cols fl v hb
    split at h
    · rename_i hc; cases h; exact ⟨cols, fl, v, hb, hc⟩
    · cases h
  · cases h
end
theorem Aj5_ {α β : Type} (f : α → β) (xs : List α) (lo hi : Int) : (sub xs lo hi).map f = sub (xs.map f) lo hi := by simp [sub, List.map_drop, List.map_take]
theorem Row.sub_cells (r : Row) (lo hi : Int) : (r.sub lo hi).cells = AM.sub r.cells lo hi := by cases r <;> simp [Row.sub, Row.cells, Aj5_]
theorem Row.sub_len (r : Row) (lo hi : Int) (h : AM.sok lo hi r.len = true) : (r.sub lo hi).len = hi.toNat - lo.toNat := by
  cases r <;> exact R2_ h
theorem Row.get_cells (F : Fr) (r : Row) (i : Nat) (h : i < r.len) : r.cells[i]? = some ((r.get i).av F) := by
  cases r <;> simp only [Row.cells, Row.len] at h ⊢ <;> rw [List.getElem?_map, List.getElem?_eq_getElem h] <;> simp [Row.get, DV.av, Ao_ _ i h]
theorem Row.get_ok (F : Fr) (L : List DBlk) (r : Row) (i : Nat) : (r.get i).Ok F L := by cases r <;> trivial
theorem Row.get_flat (r : Row) (i : Nat) : (r.get i).flat = true := by cases r <;> rfl
theorem Row.set_spec (F : Fr) {r r' : Row} {i : Nat} {v : DV} (h : r.set i v = some r') : r'.cells = r.cells.set i (v.av F) ∧ r'.len = r.len ∧ v.flat = true := by
  unfold Row.set at h
  split at h <;> cases h <;> simp [Row.cells, Row.len, DV.av, List.map_set, DV.flat]
theorem Row.app_spec {r s t : Row} (h : r.app s = some t) : t.cells = r.cells ++ s.cells ∧ t.len = r.len + s.len := by
  unfold Row.app at h
  split at h <;> cases h <;> simp [Row.cells, Row.len]
theorem Da_ (F : Fr) {v : DV} (h : v.flat = true) : (v.av F).isFlat = true := by
  cases v <;> first | rfl | (simp [DV.flat] at h)
theorem Ca_ {α : Type} {p : α → Bool} : ∀ {l : List α}, allT p l = true ↔ ∀ x ∈ l, p x = true
  | [] => by simp [allT]
  | x :: l => by
    simp only [allT, List.mem_cons, forall_eq_or_imp]
    cases h : p x with
    | true => simp [Ca_ (l := l)]
    | false => simp
section
variable {P : Program} {F : Fr} {L : List DBlk} {H : Heap}
theorem St.live (hs : St F L H) {j ver off alen : Nat} {b : DBlk} (hg : good L j ver = some b) (hl : ver = b.ver → alen = b.clen) : AM.live H ⟨F.abs j, off, alen⟩ = true := by
  obtain ⟨h1, h2⟩ := Al_ hg
  refine Av_.2 ⟨_, hs.blk h1 (Ahh_ hg), ?_⟩
  rw [b.blk_len]; exact hl h2.symm
theorem Bz_ (hs : St F L H) {j ver es len : Nat} {cols : List Col} {fl : Bool} (hg : goodN L j ver es = some (cols, fl)) {b : DBlk} (hb : L[j]? = some b) (hv : ver = b.ver → len * es = b.clen) :
    L[j]? = some (.nest cols fl ver) ∧ cols.length = es ∧ 1 ≤ es ∧ colsN cols = len ∧ H[F.abs j]? = some ⟨Ac_ F j cols, true, es, fl⟩ ∧ (Ac_ F j cols).length = len * es := by
  obtain ⟨g1, g2, g3⟩ := Acd_ hg
  rw [hb] at g1; cases g1
  have h1 := hv rfl
  simp only [DBlk.clen, g2] at h1
  have h2 : colsN cols = len := (Nat.eq_of_mul_eq_mul_right g3 h1).symm
  exact ⟨hb, g2, g3, h2, by rw [← g2]; exact hs.nest hb, by simp [g2, h2]⟩
theorem Cw_ (hs : St F L H) {j c k len : Nat} {inn : NRow} {idx : List Nat} (hi : innAt L j c = some (inn, idx)) (hk : InnOk L j c k len) : k ≤ inn.n ∧ len = (inn.get k).len ∧ len ≤ maxN ∧ ∀ m, k = m + 1 → H[F.pl j (c + 1) m]? = some ⟨(inn.get k).cells, true, 1, true⟩ := by
  obtain ⟨cols, fl, v, h1, h2⟩ := Ld_ hi
  rcases hk.2 with ⟨n, v', g1⟩ | ⟨cols', fl', v', inn', idx', g1, g2, g3, g4⟩
  · rw [h1] at g1; cases g1
  · rw [h1] at g1; cases g1
    rw [h2] at g2; cases g2
    refine ⟨g3, g4, hk.1, fun m hm => ?_⟩
    subst hm
    exact hs.inn h1 h2 (by omega)
theorem NRow.get0 (inn : NRow) : (inn.get 0).len = 0 := by cases inn <;> rfl
theorem Xe_ (hs : St F L H) {v : DV} (hv : v.Ok F L) (h : okC L v = true) : A5_ H (v.av F) = true := by
  cases v with
  | ptr j off ver alen =>
    obtain ⟨b, h1, h2, h3, h4, h5⟩ := hv
    simp only [okC] at h
    split at h
    · rename_i b' hg
      have := (Al_ hg).1
      rw [h1] at this; cases this
      exact hs.live hg h5
    · cases h
  | own j ver len =>
    obtain ⟨b, h1, h2, h3, h4, h5⟩ := hv
    simp only [okC] at h
    split at h
    · rename_i b' hg
      have := (Al_ hg).1
      rw [h1] at this; cases this
      exact hs.live hg h4
    · cases h
  | slc j off ver alen len =>
    obtain ⟨b, h1, h2, h3, h4, h5, h6⟩ := hv
    simp only [okC] at h
    split at h
    · rename_i b' hg
      have := (Al_ hg).1
      rw [h1] at this; cases this
      exact hs.live hg h5
    · cases h
  | bslc s r =>
    simp only [DV.av]
    rcases hv H hs.ag with ⟨e, _⟩ | ⟨p, B, e, h1, h2, _⟩
    · rw [e]; rfl
    · rw [e]; exact Av_.2 ⟨B, h1, h2⟩
  | hslc s n =>
    simp only [DV.av]
    rcases hv H hs.ag with ⟨e, _⟩ | ⟨p, B, e, h1, h2, _⟩
    · rw [e]; rfl
    · rw [e]; exact Av_.2 ⟨B, h1, h2⟩
  | bptr p cs =>
    simp only [DV.av]
    obtain ⟨r, B, e, h1, h2, _⟩ := hv.1 H hs.ag
    rw [e]
    exact Av_.2 ⟨B, h1, h2⟩
  | nest j ver es len =>
    obtain ⟨b, h1, h2, h3, h4, h5⟩ := hv
    simp only [okC] at h
    split at h
    · rename_i q hg
      obtain ⟨cols, fl⟩ := q
      obtain ⟨k1, k2, k3, k4, k5, k6⟩ := Bz_ hs hg h1 h4
      exact Av_.2 ⟨_, k5, k6.symm⟩
    · cases h
  | inn j c k len =>
    simp only [okC] at h
    split at h
    · rename_i q hi
      obtain ⟨inn, idx⟩ := q
      obtain ⟨k1, k2, k3, k4⟩ := Cw_ hs hi hv
      cases k with
      | zero => rfl
      | succ m => exact Av_.2 ⟨_, k4 m rfl, by simp only [Row.cells_len]; exact k2⟩
    · cases h
  | _ => first | rfl | (simp [okC] at h)
theorem C1_ (hs : St F L H) {v : DV} {r : Row} (hv : v.Ok F L) (h : rowOf L v = some r) : Reads H (v.av F) r := by
  cases v with
  | own j ver len =>
    obtain ⟨b, h1, h2, h3, h4, h5⟩ := hv
    simp only [rowOf] at h
    split at h
    · rename_i r' v' hg
      cases h
      obtain ⟨g1, g2⟩ := Al_ hg
      rw [h1] at g1; cases g1
      have hl : len = r.len := h4 g2.symm
      subst hl
      refine .inr ⟨_, _, rfl, hs.row h1, r.cells_len.symm, rfl, ?_, ?_, h5⟩
      · simp [r.cells_len]
      · simp only [List.drop_zero]; rw [← r.cells_len, List.take_length]
    · cases h
  | slc j off ver alen len =>
    obtain ⟨b, h1, h2, h3, h4, h5, h6⟩ := hv
    simp only [rowOf] at h
    split at h
    · rename_i r' v' hg
      cases h
      obtain ⟨g1, g2⟩ := Al_ hg
      rw [h1] at g1; cases g1
      have hl : alen = r'.len := h5 g2.symm
      subst hl
      have hsl : (r'.sub off (off + len : Nat)).len = len := by
        rw [r'.sub_len _ _ (Bb_.2 ⟨by omega, by omega, by omega⟩)]; omega
      refine .inr ⟨⟨F.abs j, off, r'.len⟩, _, by rw [hsl]; rfl, hs.row h1, r'.cells_len.symm, rfl, ?_, ?_, by rw [hsl]; exact h6⟩
      · rw [hsl]; show off + len ≤ r'.cells.length; rw [r'.cells_len]; omega
      · rw [hsl, r'.sub_cells]
        simp only [AM.sub, Int.toNat_natCast, List.drop_take]
        congr 1; omega
    · cases h
  | bslc s r' =>
    simp only [rowOf] at h
    cases h
    exact hv H hs.ag
  | inn j c k len =>
    simp only [rowOf] at h
    split at h
    · rename_i inn idx hi
      cases h
      obtain ⟨k1, k2, k3, k4⟩ := Cw_ hs hi hv
      subst k2
      cases k with
      | zero => exact .inl ⟨rfl, inn.get0⟩
      | succ m =>
        refine .inr ⟨_, _, rfl, k4 m rfl, by simp only [Row.cells_len], rfl, ?_, ?_, k3⟩
        · simp [Row.cells_len]
        · simp only [List.drop_zero]; rw [← Row.cells_len, List.take_length]
    · cases h
  | _ => simp [rowOf] at h
end
end Go.Proofs.Ytmgpbchacndndaa.AM
