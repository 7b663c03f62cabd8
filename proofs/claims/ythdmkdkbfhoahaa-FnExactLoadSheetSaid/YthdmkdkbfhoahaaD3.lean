/- How values that bear their contents stand to the machine's. -/
import Derived.Test.YthdmkdkbfhoahaaD2
set_option linter.unusedSimpArgs false
set_option linter.unusedVariables false
namespace Go.Proofs.Ythdmkdkbfhoahaa.AM

/-- The heap at the beginning, and which of its blocks may be turned. -/
structure Fr where
  H0 : Heap
  ids : List Nat
  nd : ids.Nodup
  lt : ∀ i ∈ ids, i < H0.length
  ws : WS H0
  ρ : Nat → AV

def Fr.abs (F : Fr) (j : Nat) : Nat :=
  match F.ids[j]? with
  | some i => i
  | none => F.H0.length + (j - F.ids.length)
def Fr.agree (F : Fr) (H : Heap) : Prop := F.H0.length ≤ H.length ∧ ∀ i, i < F.H0.length → i ∉ F.ids → H[i]? = F.H0[i]?

theorem Fr.abs_inj (F : Fr) {i j : Nat} (h : F.abs i = F.abs j) : i = j := by
  unfold Fr.abs at h
  cases hi : F.ids[i]? with
  | some a =>
    have ha := F.lt a (List.mem_of_getElem? hi)
    cases hj : F.ids[j]? with
    | some b =>
      rw [hi, hj] at h
      simp only at h
      subst h
      obtain ⟨h1, h2⟩ := List.getElem?_eq_some_iff.1 hi
      exact (List.getElem?_inj h1 F.nd).1 (hi.trans hj.symm)
    | none => rw [hi, hj] at h; simp only at h; omega
  | none =>
    have hil := List.getElem?_eq_none_iff.1 hi
    cases hj : F.ids[j]? with
    | some b => have hb := F.lt b (List.mem_of_getElem? hj); rw [hi, hj] at h; simp only at h; omega
    | none =>
      have hjl := List.getElem?_eq_none_iff.1 hj
      rw [hi, hj] at h; simp only at h; omega

mutual
def DV.av (F : Fr) : DV → AV
  | .top => .top
  | .undef => .undef
  | .lit b => .bool b
  | .bool b => .bool b
  | .int k n => .int k n
  | .flt k x => .flt k x
  | .str s => .str s
  | .nilptr => .nilptr
  | .nilfn => .nilfn
  | .nilslc => .nilslc
  | .ptr j off _ alen => .ptr ⟨F.abs j, off, alen⟩
  | .own j _ len => .slc ⟨F.abs j, 0, len⟩ len
  | .slc j off _ alen len => .slc ⟨F.abs j, off, alen⟩ len
  | .fn f cs => .fn f (DVs.av F cs)
  | .agg cs => .agg (DVs.av F cs)
  | .tup cs => .tup (DVs.av F cs)
  | .bslc s _ => s.av F.ρ
  | .bptr p _ => p.av F.ρ
  | .hslc s _ => s.av F.ρ
def DVs.av (F : Fr) : List DV → List AV
  | [] => []
  | c :: cs => c.av F :: DVs.av F cs
end
theorem DVs.av_eq (F : Fr) (cs : List DV) : DVs.av F cs = cs.map (·.av F) := by
  induction cs with
  | nil => rfl
  | cons c cs ih => simp [DVs.av, ih]
@[simp] theorem DVs.av_len (F : Fr) (cs : List DV) : (DVs.av F cs).length = cs.length := by simp [DVs.av_eq]

def DBlk.blk (F : Fr) : DBlk → Blk
  | .row r _ => ⟨r.cells, true, 1, true⟩
  | .gen cs fl _ => ⟨DVs.av F cs, true, 1, fl⟩

/-- A slice of plain elements that lies there. -/
def Reads (H : Heap) (s : AV) (r : Row) : Prop :=
  (s = .nilslc ∧ r.len = 0) ∨ ∃ p B, s = .slc p r.len ∧ H[p.id]? = some B ∧ p.ver = B.cells.length ∧ B.sz = 1 ∧ p.off + r.len ≤ B.cells.length ∧ (B.cells.drop p.off).take r.len = r.cells ∧ r.len ≤ maxN
/-- A slice of which the length alone is told. -/
def Lens (H : Heap) (s : AV) (n : Nat) : Prop := (s = .nilslc ∧ n = 0) ∨ ∃ p B, s = .slc p n ∧ H[p.id]? = some B ∧ p.ver = B.cells.length ∧ n < 9223372036854775808
def CellsAt (H : Heap) (p : AV) (cs : List AV) : Prop :=
  ∃ r B, p = .ptr r ∧ H[r.id]? = some B ∧ r.ver = B.cells.length ∧ r.off + cs.length ≤ B.cells.length ∧ (B.cells.drop r.off).take cs.length = cs

mutual
def DV.Ok (F : Fr) (L : List DBlk) : DV → Prop
  | .ptr j off ver alen => ∃ b, L[j]? = some b ∧ ver ≤ b.ver ∧ off < alen ∧ alen ≤ b.clen ∧ (ver = b.ver → alen = b.clen)
  | .own j ver len => ∃ b, L[j]? = some b ∧ ver ≤ b.ver ∧ len ≤ b.clen ∧ (ver = b.ver → len = b.clen) ∧ len ≤ maxN
  | .slc j off ver alen len => ∃ b, L[j]? = some b ∧ ver ≤ b.ver ∧ off + len ≤ alen ∧ alen ≤ b.clen ∧ (ver = b.ver → alen = b.clen) ∧ len ≤ maxN
  | .bslc s row => ∀ H, F.agree H → Reads H (s.av F.ρ) row
  | .hslc s n => ∀ H, F.agree H → Lens H (s.av F.ρ) n
  | .bptr p cs => (∀ H, F.agree H → CellsAt H (p.av F.ρ) (DVs.av F cs)) ∧ DVs.Ok F L cs
  | .fn _ cs => DVs.Ok F L cs
  | .agg cs => DVs.Ok F L cs
  | .tup cs => DVs.Ok F L cs
  | _ => True
def DVs.Ok (F : Fr) (L : List DBlk) : List DV → Prop
  | [] => True
  | c :: cs => c.Ok F L ∧ DVs.Ok F L cs
end
theorem DVs.ok_iff {F : Fr} {L : List DBlk} {cs : List DV} : DVs.Ok F L cs ↔ ∀ c ∈ cs, c.Ok F L := by
  induction cs with
  | nil => simp [DVs.Ok]
  | cons c cs ih => simp [DVs.Ok, ih]

/-- Blocks go on: grown ones bear a new number. -/
def Ext (L L' : List DBlk) : Prop := ∀ (j : Nat) (b : DBlk), L[j]? = some b → ∃ b', L'[j]? = some b' ∧ b.ver ≤ b'.ver ∧ b.clen ≤ b'.clen ∧ (b.ver = b'.ver → b.clen = b'.clen)
theorem Ext.refl (L : List DBlk) : Ext L L := fun j b h => ⟨b, h, Nat.le_refl _, Nat.le_refl _, fun _ => rfl⟩
theorem Ext.trans {L L' L'' : List DBlk} (h : Ext L L') (h' : Ext L' L'') : Ext L L'' := fun j b hb => by
  obtain ⟨b', k1, k2, k3, k4⟩ := h j b hb
  obtain ⟨b'', g1, g2, g3, g4⟩ := h' j b' k1
  exact ⟨b'', g1, by omega, by omega, fun he => by rw [k4 (by omega)]; exact g4 (by omega)⟩
theorem Ext.push (L : List DBlk) (b : List DBlk) : Ext L (L ++ b) := fun j b' h => ⟨b', by rw [List.getElem?_append_left (List.getElem?_eq_some_iff.1 h).1]; exact h, Nat.le_refl _, Nat.le_refl _, fun _ => rfl⟩
theorem Ext.set {L : List DBlk} {j : Nat} {b b' : DBlk} (hb : L[j]? = some b) (h1 : b.ver ≤ b'.ver) (h2 : b.clen ≤ b'.clen) (h3 : b.ver = b'.ver → b.clen = b'.clen) : Ext L (L.set j b') := fun i c hc => by
  rw [List.getElem?_set]
  by_cases hij : j = i
  · subst hij
    rw [hb] at hc; cases hc
    exact ⟨b', by simp [(List.getElem?_eq_some_iff.1 hb).1], h1, h2, h3⟩
  · rw [if_neg hij]; exact ⟨c, hc, Nat.le_refl _, Nat.le_refl _, fun _ => rfl⟩
theorem Ext.len {L L' : List DBlk} (h : Ext L L') : L.length ≤ L'.length := by
  rcases Nat.lt_or_ge L'.length L.length with hl | hl
  · exfalso
    obtain ⟨b', k, _⟩ := h L'.length _ (List.getElem?_eq_getElem hl)
    have := (List.getElem?_eq_some_iff.1 k).1
    omega
  · exact hl

theorem DV.Ok.ext {F : Fr} {L L' : List DBlk} (he : Ext L L') : ∀ (x : DV), x.Ok F L → x.Ok F L' := by
  intro x
  induction x using DV.rec (motive_2 := fun xs => DVs.Ok F L xs → DVs.Ok F L' xs) with
  | ptr j off ver alen =>
    rintro ⟨b, h1, h2, h3, h4, h5⟩
    obtain ⟨b', k1, k2, k3, k4⟩ := he j b h1
    exact ⟨b', k1, by omega, h3, by omega, fun h => by have := h5 (by omega); have := k4 (by omega); omega⟩
  | own j ver len =>
    rintro ⟨b, h1, h2, h3, h4, h5⟩
    obtain ⟨b', k1, k2, k3, k4⟩ := he j b h1
    exact ⟨b', k1, by omega, by omega, fun h => by have := h4 (by omega); have := k4 (by omega); omega, h5⟩
  | slc j off ver alen len =>
    rintro ⟨b, h1, h2, h3, h4, h5, h6⟩
    obtain ⟨b', k1, k2, k3, k4⟩ := he j b h1
    exact ⟨b', k1, by omega, h3, by omega, fun h => by have := h5 (by omega); have := k4 (by omega); omega, h6⟩
  | fn f cs ih => exact ih
  | agg cs ih => exact ih
  | tup cs ih => exact ih
  | bptr p cs ih => rintro ⟨h1, h2⟩; exact ⟨h1, ih h2⟩
  | nil => rename_i h; trivial
  | cons c cs ih1 ih2 => rename_i h; exact ⟨ih1 h.1, ih2 h.2⟩
  | bslc s r => exact id
  | hslc s n => exact id
  | _ => exact fun _ => trivial

def DBlk.Ok (F : Fr) (L : List DBlk) : DBlk → Prop
  | .row r _ => r.len ≤ maxN
  | .gen cs fl _ => DVs.Ok F L cs ∧ (fl = true → ∀ c ∈ cs, c.flat = true)
theorem DBlk.Ok.ext {F : Fr} {L L' : List DBlk} (he : Ext L L') {b : DBlk} (h : b.Ok F L) : b.Ok F L' := by
  cases b with
  | row r v => exact h
  | gen cs fl v => exact ⟨DVs.ok_iff.2 fun c hc => (DVs.ok_iff.1 h.1 c hc).ext he, h.2⟩

theorem Row.cells_len (r : Row) : r.cells.length = r.len := by cases r <;> simp [Row.cells, Row.len]
theorem Row.cells_flat (r : Row) : ∀ c ∈ r.cells, c.isFlat = true := by
  cases r <;> simp only [Row.cells, List.mem_map] <;> rintro c ⟨x, _, rfl⟩ <;> rfl
theorem DBlk.blk_len (F : Fr) (b : DBlk) : (b.blk F).cells.length = b.clen := by
  cases b with
  | row r v => exact r.cells_len
  | gen cs fl v => simp [DBlk.blk, DBlk.clen]
theorem DBlk.blk_own (F : Fr) (b : DBlk) : (b.blk F).own = true := by cases b <;> rfl
theorem DBlk.blk_sz (F : Fr) (b : DBlk) : (b.blk F).sz = 1 := by cases b <;> rfl

/-- The blocks lie where they are said to. -/
structure St (F : Fr) (L : List DBlk) (H : Heap) : Prop where
  len : H.length = F.H0.length + (L.length - F.ids.length)
  mle : F.ids.length ≤ L.length
  blk : ∀ (j : Nat) (b : DBlk), L[j]? = some b → H[F.abs j]? = some (b.blk F)
  ag : F.agree H
  ok : ∀ (j : Nat) (b : DBlk), L[j]? = some b → b.Ok F L

section
variable {F : Fr} {L : List DBlk} {H : Heap}
theorem Fr.abs_ge (F : Fr) {j : Nat} (h : F.ids.length ≤ j) : F.abs j = F.H0.length + (j - F.ids.length) := by
  unfold Fr.abs
  rw [List.getElem?_eq_none h]
theorem Fr.abs_out (F : Fr) {i j : Nat} (hi : i < F.H0.length) (hn : i ∉ F.ids) : F.abs j ≠ i := by
  unfold Fr.abs
  cases hj : F.ids[j]? with
  | some a => intro e; simp only at e; subst e; exact hn (List.mem_of_getElem? hj)
  | none => simp only; omega
theorem St.set (hs : St F L H) {j : Nat} {b b' : DBlk} (hb : L[j]? = some b) (he : Ext L (L.set j b')) (hok : b'.Ok F (L.set j b')) : St F (L.set j b') (H.set (F.abs j) (b'.blk F)) where
  len := by simpa using hs.len
  mle := by simpa using hs.mle
  blk := fun i c hc => by
    rw [List.getElem?_set] at hc
    have hjl : F.abs j < H.length := (List.getElem?_eq_some_iff.1 (hs.blk j b hb)).1
    by_cases hij : j = i
    · subst hij
      rw [if_pos rfl] at hc
      split at hc
      · cases hc; rw [List.getElem?_set, if_pos rfl, if_pos hjl]
      · cases hc
    · rw [if_neg hij] at hc
      rw [List.getElem?_set, if_neg (fun e => hij (F.abs_inj e))]
      exact hs.blk i c hc
  ag := ⟨by simpa using hs.ag.1, fun i hi hn => by
    rw [List.getElem?_set, if_neg (F.abs_out hi hn)]; exact hs.ag.2 i hi hn⟩
  ok := fun i c hc => by
    rw [List.getElem?_set] at hc
    by_cases hij : j = i
    · subst hij
      rw [if_pos rfl] at hc
      split at hc
      · cases hc; exact hok
      · cases hc
    · rw [if_neg hij] at hc
      exact (hs.ok i c hc).ext he
theorem St.push (hs : St F L H) {b : DBlk} (hok : b.Ok F (L ++ [b])) : St F (L ++ [b]) (H ++ [b.blk F]) where
  len := by
    have := hs.len
    have := hs.mle
    simp; omega
  mle := by have := hs.mle; simp; omega
  blk := fun i c hc => by
    rw [List.getElem?_append] at hc
    split at hc
    · have := hs.blk i c hc
      rw [List.getElem?_append_left (List.getElem?_eq_some_iff.1 this).1]; exact this
    · rename_i hi
      have hlt : i - L.length < [b].length := (List.getElem?_eq_some_iff.1 hc).1
      simp at hlt
      have hil : i = L.length := by omega
      subst hil
      simp at hc
      subst hc
      rw [F.abs_ge hs.mle, ← hs.len]; simp
  ag := ⟨by have := hs.ag.1; simp; omega, fun i hi hn => by
    rw [List.getElem?_append_left (by have := hs.ag.1; omega)]; exact hs.ag.2 i hi hn⟩
  ok := fun i c hc => by
    rw [List.getElem?_append] at hc
    split at hc
    · exact (hs.ok i c hc).ext (Ext.push _ _)
    · rename_i hi
      have hlt : i - L.length < [b].length := (List.getElem?_eq_some_iff.1 hc).1
      simp at hlt
      have hil : i = L.length := by omega
      subst hil
      simp at hc
      subst hc
      exact hok
theorem St.new (hs : St F L H) : F.abs L.length = H.length := by rw [F.abs_ge hs.mle, hs.len]

theorem good_spec {j ver : Nat} {b : DBlk} (h : good L j ver = some b) : L[j]? = some b ∧ b.ver = ver := by
  unfold good at h
  split at h
  · split at h
    · rename_i hb
      cases h
      exact ⟨by assumption, Nat.eq_of_beq_eq_true hb⟩
    · cases h
  · cases h
end

/-! reading -/
theorem map_sub {α β : Type} (f : α → β) (xs : List α) (lo hi : Int) : (sub xs lo hi).map f = sub (xs.map f) lo hi := by simp [sub, List.map_drop, List.map_take]
theorem Row.sub_cells (r : Row) (lo hi : Int) : (r.sub lo hi).cells = AM.sub r.cells lo hi := by cases r <;> simp [Row.sub, Row.cells, map_sub]
theorem Row.sub_len (r : Row) (lo hi : Int) (h : AM.sok lo hi r.len = true) : (r.sub lo hi).len = hi.toNat - lo.toNat := by
  cases r <;> exact sub_length h
theorem Row.get_cells (F : Fr) (r : Row) (i : Nat) (h : i < r.len) : r.cells[i]? = some ((r.get i).av F) := by
  cases r <;> simp only [Row.cells, Row.len] at h ⊢ <;> rw [List.getElem?_map, List.getElem?_eq_getElem h] <;> simp [Row.get, DV.av, nth_of _ i h]
theorem Row.get_ok (F : Fr) (L : List DBlk) (r : Row) (i : Nat) : (r.get i).Ok F L := by cases r <;> trivial
theorem Row.set_spec (F : Fr) {r r' : Row} {i : Nat} {v : DV} (h : r.set i v = some r') : r'.cells = r.cells.set i (v.av F) ∧ r'.len = r.len ∧ v.flat = true := by
  unfold Row.set at h
  split at h <;> cases h <;> simp [Row.cells, Row.len, DV.av, List.map_set, DV.flat]
theorem Row.app_spec {r s t : Row} (h : r.app s = some t) : t.cells = r.cells ++ s.cells ∧ t.len = r.len + s.len := by
  unfold Row.app at h
  split at h <;> cases h <;> simp [Row.cells, Row.len]
theorem flat_av (F : Fr) {v : DV} (h : v.flat = true) : (v.av F).isFlat = true := by
  cases v <;> first | rfl | (simp [DV.flat] at h)
theorem allT_iff {α : Type} {p : α → Bool} : ∀ {l : List α}, allT p l = true ↔ ∀ x ∈ l, p x = true
  | [] => by simp [allT]
  | x :: l => by
    simp only [allT, List.mem_cons, forall_eq_or_imp]
    cases h : p x with
    | true => simp [allT_iff (l := l)]
    | false => simp

section
variable {P : Program} {F : Fr} {L : List DBlk} {H : Heap}
theorem St.live (hs : St F L H) {j ver off alen : Nat} {b : DBlk} (hg : good L j ver = some b) (hl : ver = b.ver → alen = b.clen) : AM.live H ⟨F.abs j, off, alen⟩ = true := by
  obtain ⟨h1, h2⟩ := good_spec hg
  refine live_iff.2 ⟨_, hs.blk j b h1, ?_⟩
  rw [b.blk_len]; exact hl h2.symm
theorem okC_ok (hs : St F L H) {v : DV} (hv : v.Ok F L) (h : okC L v = true) : cellOk H (v.av F) = true := by
  cases v with
  | ptr j off ver alen =>
    obtain ⟨b, h1, h2, h3, h4, h5⟩ := hv
    simp only [okC] at h
    split at h
    · rename_i b' hg
      have := (good_spec hg).1
      rw [h1] at this; cases this
      exact hs.live hg h5
    · cases h
  | own j ver len =>
    obtain ⟨b, h1, h2, h3, h4, h5⟩ := hv
    simp only [okC] at h
    split at h
    · rename_i b' hg
      have := (good_spec hg).1
      rw [h1] at this; cases this
      exact hs.live hg h4
    · cases h
  | slc j off ver alen len =>
    obtain ⟨b, h1, h2, h3, h4, h5, h6⟩ := hv
    simp only [okC] at h
    split at h
    · rename_i b' hg
      have := (good_spec hg).1
      rw [h1] at this; cases this
      exact hs.live hg h5
    · cases h
  | bslc s r =>
    simp only [DV.av]
    rcases hv H hs.ag with ⟨e, _⟩ | ⟨p, B, e, h1, h2, _⟩
    · rw [e]; rfl
    · rw [e]; exact live_iff.2 ⟨B, h1, h2⟩
  | hslc s n =>
    simp only [DV.av]
    rcases hv H hs.ag with ⟨e, _⟩ | ⟨p, B, e, h1, h2, _⟩
    · rw [e]; rfl
    · rw [e]; exact live_iff.2 ⟨B, h1, h2⟩
  | bptr p cs =>
    simp only [DV.av]
    obtain ⟨r, B, e, h1, h2, _⟩ := hv.1 H hs.ag
    rw [e]
    exact live_iff.2 ⟨B, h1, h2⟩
  | _ => first | rfl | (simp [okC] at h)
theorem rowOf_ok (hs : St F L H) {v : DV} {r : Row} (hv : v.Ok F L) (h : rowOf L v = some r) : Reads H (v.av F) r := by
  cases v with
  | own j ver len =>
    obtain ⟨b, h1, h2, h3, h4, h5⟩ := hv
    simp only [rowOf] at h
    split at h
    · rename_i r' v' hg
      cases h
      obtain ⟨g1, g2⟩ := good_spec hg
      rw [h1] at g1; cases g1
      have hl : len = r.len := h4 g2.symm
      subst hl
      refine .inr ⟨_, _, rfl, hs.blk j _ h1, ?_, rfl, ?_, ?_, h5⟩
      · exact r.cells_len.symm
      · simp [DBlk.blk, r.cells_len]
      · simp only [DBlk.blk, List.drop_zero]; rw [← r.cells_len, List.take_length]
    · cases h
  | slc j off ver alen len =>
    obtain ⟨b, h1, h2, h3, h4, h5, h6⟩ := hv
    simp only [rowOf] at h
    split at h
    · rename_i r' v' hg
      cases h
      obtain ⟨g1, g2⟩ := good_spec hg
      rw [h1] at g1; cases g1
      have hl : alen = r'.len := h5 g2.symm
      subst hl
      have hsl : (r'.sub off (off + len : Nat)).len = len := by
        rw [r'.sub_len _ _ (sok_iff.2 ⟨by omega, by omega, by omega⟩)]; omega
      refine .inr ⟨⟨F.abs j, off, r'.len⟩, _, by rw [hsl]; rfl, hs.blk j _ h1, ?_, rfl, ?_, ?_, by rw [hsl]; exact h6⟩
      · exact r'.cells_len.symm
      · rw [hsl]; show off + len ≤ r'.cells.length; rw [r'.cells_len]; omega
      · rw [hsl, r'.sub_cells]
        simp only [DBlk.blk, AM.sub, Int.toNat_natCast, List.drop_take]
        congr 1; omega
    · cases h
  | bslc s r' =>
    simp only [rowOf] at h
    cases h
    exact hv H hs.ag
  | _ => simp [rowOf] at h
end
end Go.Proofs.Ythdmkdkbfhoahaa.AM
