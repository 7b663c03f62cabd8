/- The rest of the operations; all of them. -/
import Derived.Test.YthdmkdkbfhoahaaD4
set_option linter.unusedSimpArgs false
set_option linter.unusedVariables false
namespace Go.Proofs.Ythdmkdkbfhoahaa.AM

section
variable {P : Program} {T : TyT} {F : Fr} {L : List DBlk} {H : Heap}

theorem lenD_ok (hT : TOk P T) (hs : St F L H) {t : TypeId} {x y : DV} {L' : List DBlk} (hx : x.Ok F L) (h : (lenD T t x L).run = some (y, L')) :
    builtinA P H .len [t] [x.av F] = some (y.av F, H) ∧ y.Ok F L ∧ L' = L := by
  unfold lenD at h
  split at h
  · rename_i _ _ _ _ s hTt
    have hu : P.underlying t = some .string := (hT t _ hTt).und
    simp only [Tree.run, Option.some.injEq, Prod.mk.injEq] at h
    obtain ⟨rfl, rfl⟩ := h
    exact ⟨by simp [DV.av, builtinA, hu], trivial, rfl⟩
  · rename_i e _ _ _ _ hTt
    have hu : P.underlying t = some (.slice e) := (hT t _ hTt).und
    simp only [Tree.run, Option.some.injEq, Prod.mk.injEq] at h
    obtain ⟨rfl, rfl⟩ := h
    exact ⟨by simp [DV.av, builtinA, hu], trivial, rfl⟩
  · rename_i e _ _ _ _ j ver len hTt
    have hu : P.underlying t = some (.slice e) := (hT t _ hTt).und
    obtain ⟨b, h1, h2, h3, h4, h5⟩ := hx
    split at h
    · rename_i b' hg
      have := (good_spec hg).1
      rw [h1] at this; cases this
      simp only [Tree.run, Option.some.injEq, Prod.mk.injEq] at h
      obtain ⟨rfl, rfl⟩ := h
      exact ⟨by simp [DV.av, builtinA, hu, hs.live hg h4], trivial, rfl⟩
    · cases h
  · rename_i e _ _ _ _ j off ver alen len hTt
    have hu : P.underlying t = some (.slice e) := (hT t _ hTt).und
    obtain ⟨b, h1, h2, h3, h4, h5, h6⟩ := hx
    split at h
    · rename_i b' hg
      have := (good_spec hg).1
      rw [h1] at this; cases this
      simp only [Tree.run, Option.some.injEq, Prod.mk.injEq] at h
      obtain ⟨rfl, rfl⟩ := h
      exact ⟨by simp [DV.av, builtinA, hu, hs.live hg h5], trivial, rfl⟩
    · cases h
  · rename_i e _ _ _ _ s r hTt
    have hu : P.underlying t = some (.slice e) := (hT t _ hTt).und
    simp only [Tree.run, Option.some.injEq, Prod.mk.injEq] at h
    obtain ⟨rfl, rfl⟩ := h
    refine ⟨?_, trivial, rfl⟩
    rcases hx H hs.ag with ⟨e, h0⟩ | ⟨p, B, e, k1, k2, _⟩
    · simp [DV.av, e, builtinA, hu, h0]
    · simp [DV.av, e, builtinA, hu, live_iff.2 ⟨B, k1, k2⟩]
  · rename_i e _ _ _ _ s n hTt
    have hu : P.underlying t = some (.slice e) := (hT t _ hTt).und
    simp only [Tree.run, Option.some.injEq, Prod.mk.injEq] at h
    obtain ⟨rfl, rfl⟩ := h
    refine ⟨?_, trivial, rfl⟩
    rcases hx H hs.ag with ⟨e, h0⟩ | ⟨p, B, e, k1, k2, _⟩
    · simp [DV.av, e, builtinA, hu, h0]
    · simp [DV.av, e, builtinA, hu, live_iff.2 ⟨B, k1, k2⟩]
  · cases h

theorem Reads.rdS {s : AV} {r : Row} (h : Reads H s r) : AM.rdS H s = some r.cells ∧ lenS s = some r.len := by
  rcases h with ⟨rfl, h0⟩ | ⟨p, B, rfl, k1, k2, k3, k4, k5, _⟩
  · have : r.cells = [] := List.eq_nil_of_length_eq_zero (by rw [r.cells_len, h0])
    simp [AM.rdS, lenS, this, h0]
  · simp only [AM.rdS, lenS, k1, k3, Nat.mul_one, and_true]
    rw [if_pos ⟨k2, k4⟩, k5]
theorem row_ok (r : Row) (H : Heap) : r.cells.all (cellOk H) = true ∧ r.cells.all AV.isFlat = true := by
  refine ⟨List.all_eq_true.2 fun c hc => ?_, List.all_eq_true.2 r.cells_flat⟩
  have := r.cells_flat c hc
  cases c <;> first | rfl | (simp [AV.isFlat] at this)

theorem putAt_over (l : List AV) (o : Nat) (vs : List AV) (h : o + vs.length ≤ l.length) : putAt l o vs = overL l o vs := by
  unfold overL
  refine List.ext_getElem? fun i => ?_
  rw [putAt_get _ _ _ _ h]
  by_cases h1 : i < o
  · rw [if_neg (by omega), List.append_assoc, List.getElem?_append_left (by simp; omega), List.getElem?_take, if_pos h1]
  · by_cases h2 : i < o + vs.length
    · rw [if_pos ⟨by omega, h2⟩, List.getElem?_append_left (by simp; omega), List.getElem?_append_right (by simp; omega)]
      congr 1
      simp; omega
    · rw [if_neg (by omega), List.getElem?_append_right (by simp; omega), List.getElem?_drop]
      congr 1
      simp; omega
theorem map_over {α β : Type} (f : α → β) (xs ys : List α) (o : Nat) : (overL xs o ys).map f = overL (xs.map f) o (ys.map f) := by
  simp [overL, List.map_take, List.map_drop]
theorem over_len {α : Type} (xs ys : List α) (o : Nat) (h : o + ys.length ≤ xs.length) : (overL xs o ys).length = xs.length := by
  simp [overL]; omega
theorem Row.over_spec {r s t : Row} {o : Nat} (h : r.over o s = some t) (hl : o + s.len ≤ r.len) : t.cells = putAt r.cells o s.cells ∧ t.len = r.len := by
  have hc : o + s.cells.length ≤ r.cells.length := by rw [s.cells_len, r.cells_len]; exact hl
  rw [putAt_over _ _ _ hc]
  unfold Row.over at h
  split at h <;> cases h <;> refine ⟨by simp only [Row.cells, map_over], ?_⟩ <;> simp only [Row.len] at hl ⊢ <;> exact over_len _ _ _ hl
theorem nums_len (b : ByteArray) : (Row.u8 (numsS b)).len = b.size := by simp only [Row.len, numsS, List.length_map, Array.length_toList]; rfl
theorem nums_cells (b : ByteArray) : byteCellsA b = (Row.u8 (numsS b)).cells := by simp [byteCellsA, Row.cells, numsS]
theorem appendD_ok (hT : TOk P T) (hs : St F L H) {t tx : TypeId} {s x y : DV} {L' : List DBlk} (hsv : s.Ok F L) (hx : x.Ok F L) (h : (appendD T t tx s x L).run = some (y, L')) :
    ∃ H', appendA P H t tx (s.av F) (x.av F) = some (y.av F, H') ∧ St F L' H' ∧ y.Ok F L' ∧ Ext L L' := by
  unfold appendD at h
  split at h
  case h_3 => cases h
  case h_2 =>
    rename_i e _ _ _ _ htt hTt
    have htt : t ≠ tx := fun e => by rw [e] at htt; simp at htt
    have hu : P.underlying t = some (.slice e) := (hT t _ hTt).und
    split at h
    case h_2 => cases h
    rename_i b hTx
    have hux : P.underlying tx = some .string := (hT tx _ hTx).und
    unfold appendSD at h
    split at h
    case h_2 => cases h
    rename_i zo hTe
    obtain ⟨inf, z, i1, i2, i3, i4, i5, i6, _⟩ := (hT e _ hTe).el rfl rfl
    have ihp : inf.hasPointers = false := by simpa using i6
    split at h
    case h_2 => cases h
    rename_i j ver len
    obtain ⟨b0, h1, h2, h3, h4, h5⟩ := hsv
    split at h
    case h_2 => cases h
    rename_i r v hg
    obtain ⟨g1, g2⟩ := good_spec hg
    rw [h1] at g1; cases g1
    have hal : len = r.len := h4 g2.symm
    obtain ⟨r', hr', h⟩ := optT_run h
    obtain ⟨a1, a2⟩ := Row.app_spec hr'
    simp only [Tree.run] at h
    split at h
    case isFalse => cases h
    rename_i hf
    rw [fits_iff] at hf
    simp only [Option.some.injEq, Prod.mk.injEq] at h
    obtain ⟨rfl, rfl⟩ := h
    have he : Ext L (L.set j (.row r' (v + 1))) := Ext.set (b := .row r v) (b' := .row r' (v + 1)) h1 (by simp [DBlk.ver]) (by simp [DBlk.clen, a2]) fun hv => by simp [DBlk.ver] at hv
    have hst := hs.set h1 he (show DBlk.Ok F _ (.row r' (v + 1)) from hf)
    have hjl : j < L.length := (List.getElem?_eq_some_iff.1 h1).1
    refine ⟨_, ?_, hst, ⟨.row r' (v + 1), by simp [hjl], Nat.le_refl _, Nat.le_refl _, fun _ => rfl, hf⟩, he⟩
    unfold maxN at hf
    have hyl : (Row.u8 (numsS b)).len = b.size := nums_len b
    have hbc : byteCellsA b = (Row.u8 (numsS b)).cells := nums_cells b
    rw [DV.av, DV.av]
    simp only [appendA, elemA, hu, hux, Option.bind_some, appA, i1, i4]
    rw [hbc, if_pos ⟨by rw [Row.cells_len, hyl, i2]; simp, by omega, i3, by rw [i5, i2], (row_ok _ H).1⟩]
    simp only [hs.blk j _ h1]
    rw [if_pos ⟨by rw [DBlk.blk_len]; exact hal, DBlk.blk_own _ _, by rw [DBlk.blk_sz, i2], by omega, fun _ => (row_ok _ H).2⟩]
    by_cases hz : b.size = 0
    · rw [if_pos hz]
      have hy0 : (Row.u8 (numsS b)).cells = [] := List.eq_nil_of_length_eq_zero (by rw [Row.cells_len, hyl, hz])
      have hb : H.set (F.abs j) ((DBlk.row r' (v + 1)).blk F) = H := by
        have hk := hs.blk j _ h1
        obtain ⟨hk1, hk2⟩ := List.getElem?_eq_some_iff.1 hk
        have : (DBlk.row r' (v + 1)).blk F = H[F.abs j] := by rw [hk2]; simp [DBlk.blk, a1, hy0]
        rw [this, List.set_getElem_self]
      rw [hb]
      simp only [DV.av, Option.some.injEq, Prod.mk.injEq, and_true]
      have : r'.len = len := by omega
      rw [this]
    · rw [if_neg hz, if_pos ⟨trivial, by rw [DBlk.blk_len, i2]; simp [DBlk.clen]; exact hal⟩]
      have e3 : (DBlk.blk F (.row r v)).cells.length + (Row.u8 (numsS b)).cells.length = r'.len := by rw [DBlk.blk_len, Row.cells_len, a2]; rfl
      have e4 : len + b.size = r'.len := by omega
      rw [e3, e4]
      simp only [DV.av, Option.some.injEq, Prod.mk.injEq, true_and]
      congr 1
      simp [DBlk.blk, a1]
  rename_i e _ _ _ _ htt hTt
  have htt := Nat.eq_of_beq_eq_true htt
  subst htt
  have hu : P.underlying t = some (.slice e) := (hT t _ hTt).und
  split at h
  case h_2 => cases h
  rename_i kd zo hTe
  obtain ⟨inf, z, i1, i2, i3, i4, i5, i6, _⟩ := (hT e _ hTe).el rfl rfl
  have ihp : inf.hasPointers = false := by simpa using i6
  have base : ∀ (s0 x0 : AV) (n : Nat) (news : List AV), lenS x0 = some n → AM.rdS H x0 = some news → appendA P H t t s0 x0 = appA P H e s0 n news := by
    intro s0 x0 n news h1 h2
    simp [appendA, elemA, hu, h1, h2]
  have cond : ∀ (yr : Row), yr.cells.length = yr.len * inf.size ∧ 0 < inf.size ∧ inf.bytes ≤ 1024 ∧ z.cells.size = inf.size ∧ yr.cells.all (cellOk H) = true := fun yr =>
    ⟨by rw [yr.cells_len, i2]; simp, by omega, i3, by rw [i5, i2], (row_ok yr H).1⟩
  split at h
  · -- own, nil
    rename_i j ver len
    obtain ⟨b, h1, h2, h3, h4, h5⟩ := hsv
    split at h
    · rename_i r v hg
      obtain ⟨g1, g2⟩ := good_spec hg
      rw [h1] at g1; cases g1
      have hal : len = r.len := h4 g2.symm
      simp only [Tree.run, Option.some.injEq, Prod.mk.injEq] at h
      obtain ⟨rfl, rfl⟩ := h
      refine ⟨H, ?_, hs, ⟨_, h1, h2, h3, h4, h5⟩, Ext.refl _⟩
      rw [DV.av, DV.av, base _ _ 0 [] rfl rfl]
      unfold maxN at h5
      simp only [appA, i1, i4, Option.bind_some, hs.blk j _ h1]
      rw [if_pos ⟨by simp, by omega, i3, by rw [i5, i2], by simp⟩, if_pos ⟨by rw [DBlk.blk_len]; exact hal, DBlk.blk_own _ _, by rw [DBlk.blk_sz, i2], by omega, by simp⟩]
      simp
    · cases h
  · -- own
    rename_i _ j ver len hnn
    obtain ⟨b, h1, h2, h3, h4, h5⟩ := hsv
    split at h
    · rename_i r v yr hg hro
      obtain ⟨g1, g2⟩ := good_spec hg
      rw [h1] at g1; cases g1
      have hal : len = r.len := h4 g2.symm
      obtain ⟨r', hr', h⟩ := optT_run h
      obtain ⟨a1, a2⟩ := Row.app_spec hr'
      simp only [Tree.run] at h
      split at h
      · rename_i hf
        rw [fits_iff] at hf
        simp only [Option.some.injEq, Prod.mk.injEq] at h
        obtain ⟨rfl, rfl⟩ := h
        obtain ⟨e1, e2⟩ := (rowOf_ok hs hx hro).rdS
        have he : Ext L (L.set j (.row r' (v + 1))) := Ext.set (b := .row r v) (b' := .row r' (v + 1)) h1 (by simp [DBlk.ver]) (by simp [DBlk.clen, a2]) fun hv => by simp [DBlk.ver] at hv
        have hst := hs.set h1 he (show DBlk.Ok F _ (.row r' (v + 1)) from hf)
        have hjl : j < L.length := (List.getElem?_eq_some_iff.1 h1).1
        refine ⟨_, ?_, hst, ⟨.row r' (v + 1), by simp [hjl], Nat.le_refl _, Nat.le_refl _, fun _ => rfl, hf⟩, he⟩
        rw [DV.av, base _ _ _ _ e2 e1]
        unfold maxN at hf
        simp only [appA, i1, i4, Option.bind_some]
        rw [if_pos (cond yr)]
        simp only [hs.blk j _ h1]
        rw [if_pos ⟨by rw [DBlk.blk_len]; exact hal, DBlk.blk_own _ _, by rw [DBlk.blk_sz, i2], by omega, fun _ => (row_ok yr H).2⟩]
        by_cases hz : yr.len = 0
        · rw [if_pos hz]
          have hy0 : yr.cells = [] := List.eq_nil_of_length_eq_zero (by rw [yr.cells_len, hz])
          have hb : H.set (F.abs j) ((DBlk.row r' (v + 1)).blk F) = H := by
            have hk := hs.blk j _ h1
            obtain ⟨hk1, hk2⟩ := List.getElem?_eq_some_iff.1 hk
            have : (DBlk.row r' (v + 1)).blk F = H[F.abs j] := by rw [hk2]; simp [DBlk.blk, a1, hy0]
            rw [this, List.set_getElem_self]
          rw [hb]
          simp only [DV.av, Option.some.injEq, Prod.mk.injEq, and_true]
          have : r'.len = len := by omega
          rw [this]
        · rw [if_neg hz, if_pos ⟨trivial, by rw [DBlk.blk_len, i2]; simp [DBlk.clen]; exact hal⟩]
          have e3 : (DBlk.blk F (.row r v)).cells.length + yr.cells.length = r'.len := by rw [DBlk.blk_len, yr.cells_len, a2]; rfl
          have e4 : len + yr.len = r'.len := by omega
          rw [e3, e4]
          simp only [DV.av, Option.some.injEq, Prod.mk.injEq, true_and]
          congr 1
          simp [DBlk.blk, a1]
      · cases h
    · cases h
  · -- nil
    rename_i x
    split at h
    · rename_i yr hro
      obtain ⟨e1, e2⟩ := (rowOf_ok hs hx hro).rdS
      simp only [Tree.run] at h
      split at h
      · rename_i hf
        rw [fits_iff] at hf
        have hf' := hf
        unfold maxN at hf'
        split at h
        · rename_i hz
          have hz : yr.len = 0 := by simpa using hz
          split at h
          · cases h
          simp only [Tree.run, Option.some.injEq, Prod.mk.injEq] at h
          obtain ⟨rfl, rfl⟩ := h
          refine ⟨H, ?_, hs, trivial, Ext.refl _⟩
          rw [DV.av, base _ _ _ _ e2 e1]
          simp only [appA, i1, i4, Option.bind_some]
          rw [if_pos (cond yr)]
          simp [hz]
        · rename_i hz
          have hz : yr.len ≠ 0 := by simpa using hz
          simp only [Option.some.injEq, Prod.mk.injEq] at h
          obtain ⟨rfl, rfl⟩ := h
          have hst := hs.push (b := .row yr 0) (show DBlk.Ok F _ (.row yr 0) from hf)
          refine ⟨_, ?_, hst, ⟨.row yr 0, by simp, Nat.le_refl _, Nat.le_refl _, fun _ => rfl, hf⟩, Ext.push _ _⟩
          rw [DV.av, base _ _ _ _ e2 e1]
          simp only [appA, i1, i4, Option.bind_some]
          rw [if_pos (cond yr)]
          simp only [hz, if_false]
          rw [if_pos hf']
          simp only [newA]
          rw [if_pos (fun _ => (row_ok yr H).2)]
          simp [DV.av, hs.new, yr.cells_len, DBlk.blk, i2, ihp]
      · cases h
    · cases h
  · -- within an own block
    rename_i x j off ver alen len
    obtain ⟨b, h1, h2, h3, h4, h5⟩ := hsv
    split at h
    · rename_i r v yr hg hro
      obtain ⟨g1, g2⟩ := good_spec hg
      rw [h1] at g1; cases g1
      have hal : alen = r.len := h5.1 g2.symm
      have hmax : r.len ≤ maxN := hs.ok j _ h1
      rw [Tree.run] at h
      split at h
      case isFalse => cases h
      rename_i hbd
      have hbd := of_decide_eq_true hbd
      obtain ⟨r', hr', h⟩ := optT_run h
      simp only [Tree.run, Option.some.injEq, Prod.mk.injEq] at h
      obtain ⟨rfl, rfl⟩ := h
      obtain ⟨e1, e2⟩ := (rowOf_ok hs hx hro).rdS
      obtain ⟨o1, o2⟩ := Row.over_spec hr' hbd
      have he : Ext L (L.set j (.row r' v)) := Ext.set (b := .row r v) (b' := .row r' v) h1 (Nat.le_refl _) (by simp [DBlk.clen, o2]) fun _ => by simp [DBlk.clen, o2]
      have hst := hs.set h1 he (show DBlk.Ok F _ (.row r' v) from by show r'.len ≤ maxN; omega)
      have hjl : j < L.length := (List.getElem?_eq_some_iff.1 h1).1
      refine ⟨H.set (F.abs j) ((DBlk.row r' v).blk F), ?_, hst, ⟨.row r' v, by simp [hjl], h2, by omega, by show alen ≤ r'.len; omega, fun _ => by show alen = r'.len; omega, by omega⟩, he⟩
      rw [DV.av, base _ _ _ _ e2 e1]
      unfold maxN at hmax
      simp only [appA, i1, i4, Option.bind_some]
      rw [if_pos (cond yr)]
      simp only [hs.blk j _ h1]
      rw [if_pos ⟨by rw [DBlk.blk_len]; exact hal, DBlk.blk_own _ _, by rw [DBlk.blk_sz, i2], by omega, fun _ => (row_ok yr H).2⟩]
      by_cases hz : yr.len = 0
      · rw [if_pos hz]
        have hy0 : yr.cells = [] := List.eq_nil_of_length_eq_zero (by rw [yr.cells_len, hz])
        have hb : H.set (F.abs j) ((DBlk.row r' v).blk F) = H := by
          have hk := hs.blk j _ h1
          obtain ⟨hk1, hk2⟩ := List.getElem?_eq_some_iff.1 hk
          have : (DBlk.row r' v).blk F = H[F.abs j] := by
            rw [hk2]
            rw [hy0] at o1
            have o3 : r'.cells = r.cells := o1
            simp only [DBlk.blk, o3]
          rw [this, List.set_getElem_self]
        rw [hb]
        simp only [DV.av, Option.some.injEq, Prod.mk.injEq, and_true, hz, Nat.add_zero]
      · have hcl : (DBlk.blk F (.row r v)).cells.length = r.len := by rw [DBlk.blk_len]; rfl
        rw [if_neg hz, if_neg (by rw [hcl, i2]; omega), if_pos (by rw [hcl, i2, yr.cells_len]; omega)]
        simp only [DV.av, Option.some.injEq, Prod.mk.injEq, true_and, i2, Nat.mul_one]
        congr 1
        simp [DBlk.blk, o1]
    · cases h
  · cases h

theorem newA_ok' (hs : St F L H) {b : DBlk} (hok : b.Ok F (L ++ [b])) (hf : (b.blk F).flat = true → (b.blk F).cells.all AV.isFlat = true) {sz : Nat} {fl : Bool} {cs : List AV} (h1 : cs = (b.blk F).cells) (h2 : sz = 1) (h3 : fl = (b.blk F).flat) :
    newA H cs sz fl = some (⟨F.abs L.length, 0, cs.length⟩, H ++ [b.blk F]) ∧ St F (L ++ [b]) (H ++ [b.blk F]) := by
  subst h1; subst h2; subst h3
  refine ⟨?_, hs.push hok⟩
  simp only [newA]
  rw [if_pos hf, hs.new]
  have : (⟨(b.blk F).cells, true, 1, (b.blk F).flat⟩ : Blk) = b.blk F := by cases b <;> rfl
  rw [this]

theorem allocD_ok (hT : TOk P T) (hs : St F L H) {e : TypeId} {v y : DV} {L' : List DBlk} (hv : v.Ok F L) (h : (allocD T e (some v) L).run = some (y, L')) :
    ∃ cs r H', (v.av F).cellsA = some cs ∧ cs.all (cellOk H) = true ∧ newA H cs 1 (flatT P e) = some (r, H') ∧ y.av F = .ptr r ∧ St F L' H' ∧ y.Ok F L' ∧ Ext L L' := by
  unfold allocD at h
  split at h
  · rename_i i hTe
    simp only at h
    obtain ⟨cs, hcs, h⟩ := optT_run h
    split at h
    · rename_i c0 c1 c2
      simp only [Tree.run, Option.some.injEq, Prod.mk.injEq] at h
      obtain ⟨rfl, rfl⟩ := h
      obtain ⟨k1, k2⟩ := cellsD_av hs hcs hv
      have hfl : i.flat = true → allT DV.flat cs = true := fun e => by rw [e] at c2; exact c2
      have hok : DBlk.Ok F (L ++ [.gen cs i.flat 0]) (.gen cs i.flat 0) := ⟨DVs.ok_iff.2 fun c hc => (DVs.ok_iff.1 k2 c hc).ext (Ext.push _ _), fun e c hc => allT_iff.1 (hfl e) c hc⟩
      obtain ⟨n1, n2⟩ := newA_ok' hs hok (fun e => flat_all (hfl e)) rfl rfl rfl
      refine ⟨_, _, _, k1, okC_all hs k2 c1, by rw [(hT e i hTe).fl]; exact n1, ?_, n2, ⟨.gen cs i.flat 0, by simp, Nat.le_refl _, ?_, Nat.le_refl _, fun _ => rfl⟩, Ext.push _ _⟩
      · simp [DV.av, DBlk.blk]
      · exact Nat.le_of_ble_eq_true c0
    · cases h
  · cases h

theorem fillD_ok (hT : TOk P T) (hs : St F L H) {t : TypeId} {fs : List (Nat × TypeId)} (hfo : ∀ k q, fs[k]? = some q → fieldOff P t k = some q) : ∀ (parts : List (Nat × DV)) (cells cs : List DV), (∀ q ∈ parts, q.2.Ok F L) → DVs.Ok F L cells →
    fillD L T fs cells parts = some cs → fillA H (placeA P t) (DVs.av F cells) (parts.map fun q => (q.1, q.2.av F)) = some (DVs.av F cs) ∧ DVs.Ok F L cs
  | [], cells, cs, _, hc, h => by simp only [fillD, Option.some.injEq] at h; subst h; exact ⟨rfl, hc⟩
  | (i, v) :: rest, cells, cs, hp, hc, h => by
    simp only [fillD] at h
    split at h
    · rename_i o ft vs hf hcv
      split at h
      · rename_i fi hTf
        split at h
        · rename_i c1 c2 c3
          have e1 := Nat.eq_of_beq_eq_true c1
          have e2 := Nat.le_of_ble_eq_true c2
          have hv := hp (i, v) (by simp)
          obtain ⟨k1, k2⟩ := cellsD_av hs hcv hv
          have := fillD_ok hT hs hfo rest (putD cells o vs) cs (fun q hq => hp q (by simp [hq])) (DVs.ok_iff.2 fun c hc' => by
            rcases putD_mem vs _ _ c hc' with h | h
            · exact DVs.ok_iff.1 hc c h
            · exact DVs.ok_iff.1 k2 c h) h
          refine ⟨?_, this.2⟩
          have hpl : placeA P t i = some (o, fi.size) := by simp [placeA, hfo _ _ hf, (hT ft fi hTf).sz]
          simp only [List.map_cons, fillA, hpl, k1]
          rw [if_pos ⟨by simp [e1], by simpa using e2, okC_all hs k2 c3⟩, ← putD_av]
          exact this.1
        · cases h
      · cases h
    · cases h
theorem buildD_ok (hT : TOk P T) (hs : St F L H) {t : TypeId} {parts : List (Nat × DV)} {y : DV} {L' : List DBlk} (hp : ∀ q ∈ parts, q.2.Ok F L) (h : (buildD T t parts L).run = some (y, L')) :
    buildA P H t (parts.map fun q => (q.1, q.2.av F)) = some (y.av F) ∧ y.Ok F L ∧ L' = L := by
  unfold buildD at h
  split at h
  · rename_i fs sz fl zc sm hTt
    obtain ⟨cs, hcs, h⟩ := optT_run h
    simp only [Tree.run, Option.some.injEq, Prod.mk.injEq] at h
    obtain ⟨rfl, rfl⟩ := h
    have hty := hT t _ hTt
    obtain ⟨⟨f, hf, hall⟩, hfo⟩ := hty.und
    obtain ⟨z1, z2⟩ := hty.zero _ rfl
    obtain ⟨k1, k2⟩ := fillD_ok hT hs hfo parts zc cs hp (z2 F L) hcs
    refine ⟨?_, k2, rfl⟩
    simp only [buildA, hf]
    rw [if_pos hall, z1 F]
    simp [DV.av, AV.cellsA, k1]
  · cases h

theorem partsD_spec : ∀ (parts : List (Nat × DV)) (k : Nat) (vs : List DV), partsD k parts = some vs → parts = (List.range' k vs.length).zip vs ∧ vs.length = parts.length
  | [], k, vs, h => by simp only [partsD, Option.some.injEq] at h; subst h; exact ⟨rfl, rfl⟩
  | (i, v) :: rest, k, vs, h => by
    simp only [partsD] at h
    split at h
    · rename_i l c1 hr
      cases h
      have e := Nat.eq_of_beq_eq_true c1
      subst e
      obtain ⟨k1, k2⟩ := partsD_spec rest (i + 1) l hr
      refine ⟨?_, by simp [k2]⟩
      rw [k1]
      simp [List.range'_succ]
    · cases h
theorem mkRow_spec {k : TK} {vs : List DV} {r : Row} (h : mkRow k vs = some r) : r.cells = DVs.av F vs ∧ r.len = vs.length ∧ ∀ v ∈ vs, v.flat = true := by
  have a1 : ∀ (vs : List DV) (xs : List Nat), allF32 vs = some xs → xs.map (AV.flt .f32) = DVs.av F vs ∧ xs.length = vs.length ∧ ∀ v ∈ vs, v.flat = true := by
    intro vs
    induction vs with
    | nil => intro xs h; simp only [allF32, Option.some.injEq] at h; subst h; exact ⟨rfl, rfl, by simp⟩
    | cons v vs ih =>
      intro xs h
      cases v with
      | flt k x =>
        cases k with
        | f32 =>
          simp only [allF32] at h
          split at h
          · rename_i ys hy
            cases h
            obtain ⟨k1, k2, k3⟩ := ih ys hy
            exact ⟨by simp [DVs.av, DV.av, k1], by simp [k2], by simpa [DV.flat] using k3⟩
          · cases h
        | f64 => simp [allF32] at h
      | _ => simp [allF32] at h
  have a2 : ∀ (vs : List DV) (xs : List Nat), allF64 vs = some xs → xs.map (AV.flt .f64) = DVs.av F vs ∧ xs.length = vs.length ∧ ∀ v ∈ vs, v.flat = true := by
    intro vs
    induction vs with
    | nil => intro xs h; simp only [allF64, Option.some.injEq] at h; subst h; exact ⟨rfl, rfl, by simp⟩
    | cons v vs ih =>
      intro xs h
      cases v with
      | flt k x =>
        cases k with
        | f64 =>
          simp only [allF64] at h
          split at h
          · rename_i ys hy
            cases h
            obtain ⟨k1, k2, k3⟩ := ih ys hy
            exact ⟨by simp [DVs.av, DV.av, k1], by simp [k2], by simpa [DV.flat] using k3⟩
          · cases h
        | f32 => simp [allF64] at h
      | _ => simp [allF64] at h
  have a3 : ∀ (vs : List DV) (xs : List Int), allI64 vs = some xs → xs.map (AV.int .i64) = DVs.av F vs ∧ xs.length = vs.length ∧ ∀ v ∈ vs, v.flat = true := by
    intro vs
    induction vs with
    | nil => intro xs h; simp only [allI64, Option.some.injEq] at h; subst h; exact ⟨rfl, rfl, by simp⟩
    | cons v vs ih =>
      intro xs h
      cases v with
      | int k x =>
        cases k with
        | i64 =>
          simp only [allI64] at h
          split at h
          · rename_i ys hy
            cases h
            obtain ⟨k1, k2, k3⟩ := ih ys hy
            exact ⟨by simp [DVs.av, DV.av, k1], by simp [k2], by simpa [DV.flat] using k3⟩
          · cases h
        | _ => simp [allI64] at h
      | _ => simp [allI64] at h
  have a4 : ∀ (vs : List DV) (xs : List Int), allU8 vs = some xs → xs.map (AV.int .u8) = DVs.av F vs ∧ xs.length = vs.length ∧ ∀ v ∈ vs, v.flat = true := by
    intro vs
    induction vs with
    | nil => intro xs h; simp only [allU8, Option.some.injEq] at h; subst h; exact ⟨rfl, rfl, by simp⟩
    | cons v vs ih =>
      intro xs h
      cases v with
      | int k x =>
        cases k with
        | u8 =>
          simp only [allU8] at h
          split at h
          · rename_i ys hy
            cases h
            obtain ⟨k1, k2, k3⟩ := ih ys hy
            exact ⟨by simp [DVs.av, DV.av, k1], by simp [k2], by simpa [DV.flat] using k3⟩
          · cases h
        | _ => simp [allU8] at h
      | _ => simp [allU8] at h
  have a5 : ∀ (vs : List DV) (xs : List Bool), allB vs = some xs → xs.map AV.bool = DVs.av F vs ∧ xs.length = vs.length ∧ ∀ v ∈ vs, v.flat = true := by
    intro vs
    induction vs with
    | nil => intro xs h; simp only [allB, Option.some.injEq] at h; subst h; exact ⟨rfl, rfl, by simp⟩
    | cons v vs ih =>
      intro xs h
      cases v with
      | bool x =>
        simp only [allB] at h
        split at h
        · rename_i ys hy
          cases h
          obtain ⟨k1, k2, k3⟩ := ih ys hy
          exact ⟨by simp [DVs.av, DV.av, k1], by simp [k2], by simpa [DV.flat] using k3⟩
        · cases h
      | lit x =>
        simp only [allB] at h
        split at h
        · rename_i ys hy
          cases h
          obtain ⟨k1, k2, k3⟩ := ih ys hy
          exact ⟨by simp [DVs.av, DV.av, k1], by simp [k2], by simpa [DV.flat] using k3⟩
        · cases h
      | _ => simp [allB] at h
  unfold mkRow at h
  split at h
  · split at h
    · rename_i xs hx; cases h; exact a1 vs xs hx
    · cases h
  · split at h
    · rename_i xs hx; cases h; exact a2 vs xs hx
    · cases h
  · split at h
    · rename_i xs hx; cases h; exact a3 vs xs hx
    · cases h
  · split at h
    · rename_i xs hx; cases h; exact a4 vs xs hx
    · cases h
  · split at h
    · rename_i xs hx; cases h; exact a5 vs xs hx
    · cases h
  · cases h
theorem fill_row (H : Heap) : ∀ (vs done : List AV), (∀ v ∈ vs, v.isFlat = true) →
    fillA H (fun j => some (j * 1, 1)) (done ++ List.replicate vs.length .top) ((List.range' done.length vs.length).zip vs) = some (done ++ vs)
  | [], done, _ => by simp [fillA]
  | v :: vs, done, hv => by
    have h1 : v.cellsA = some [v] := by
      have := hv v (by simp)
      cases v <;> first | rfl | (simp [AV.isFlat] at this)
    have h2 : cellOk H v = true := by
      have := hv v (by simp)
      cases v <;> first | rfl | (simp [AV.isFlat] at this)
    have ih := fill_row H vs (done ++ [v]) fun w hw => hv w (by simp [hw])
    simp only [List.length_cons, List.range'_succ, List.zip_cons_cons, fillA, h1]
    rw [if_pos ⟨rfl, by simp, by simp [h2]⟩]
    have : putAt (done ++ List.replicate (vs.length + 1) .top) (done.length * 1) [v] = (done ++ [v]) ++ List.replicate vs.length .top := by
      simp [putAt, List.replicate_succ]
    rw [this]
    simpa using ih
theorem buildSliceD_ok (hT : TOk P T) (hs : St F L H) {t : TypeId} {len : Nat} {parts : List (Nat × DV)} {y : DV} {L' : List DBlk} (h : (buildSliceD T t len parts L).run = some (y, L')) :
    ∃ H', ((buildSliceA P H t len (parts.map fun q => (q.1, q.2.av F))).bind fun q => (newA H q.1 q.2.1 q.2.2).map fun r => ((.slc r.1 len : AV), r.2)) = some (y.av F, H') ∧ St F L' H' ∧ y.Ok F L' ∧ Ext L L' := by
  unfold buildSliceD at h
  split at h
  case h_2 => cases h
  rename_i e _ _ _ _ hTt
  have hu : P.underlying t = some (.slice e) := (hT t _ hTt).und
  split at h
  case h_2 => cases h
  rename_i k zo hTe
  obtain ⟨inf, z, i1, i2, i3, i4, i5, i6, _⟩ := (hT e _ hTe).el rfl rfl
  have ihp : inf.hasPointers = false := by simpa using i6
  split at h
  · rename_i vs c1 c2 hps
    have e1 := Nat.eq_of_beq_eq_true c1
    have e2 := Nat.le_of_ble_eq_true c2
    obtain ⟨r, hr, h⟩ := optT_run h
    simp only [Tree.run, Option.some.injEq, Prod.mk.injEq] at h
    obtain ⟨rfl, rfl⟩ := h
    obtain ⟨p1, p2⟩ := partsD_spec parts 0 vs hps
    obtain ⟨m1, m2, m3⟩ := mkRow_spec (F := F) hr
    have hlen : vs.length = len := by omega
    have hok : DBlk.Ok F (L ++ [.row r 0]) (.row r 0) := by show r.len ≤ maxN; unfold maxN; omega
    obtain ⟨n1, n2⟩ := newA_ok' hs hok (fun _ => (row_ok r H).2) (sz := 1) (fl := !inf.hasPointers) (cs := r.cells) rfl rfl (by simp [DBlk.blk, ihp])
    refine ⟨_, ?_, n2, ⟨.row r 0, by simp, Nat.le_refl _, Nat.le_refl _, fun _ => rfl, hok⟩, Ext.push _ _⟩
    have hf := fill_row H (DVs.av F vs) [] fun v hv => by
      rw [DVs.av_eq, List.mem_map] at hv
      obtain ⟨w, hw, rfl⟩ := hv
      exact flat_av F (m3 w hw)
    have hz : (parts.map fun q => (q.1, q.2.av F)) = (List.range' 0 vs.length).zip (DVs.av F vs) := by
      rw [p1, DVs.av_eq, List.zip_map_right]
      rfl
    simp only [List.nil_append, List.length_nil, DVs.av_len] at hf
    simp only [buildSliceA, elemA, hu, Option.bind_some, i1, i4]
    rw [if_pos ⟨by rw [i2]; omega, by rw [i5, i2]⟩, hz, i2, Nat.mul_one, ← hlen, hf]
    simp only [Option.map_some, Option.bind_some]
    rw [← m1, n1]
    simp [DV.av, m2, r.cells_len]
  · cases h

theorem repRow_spec {k : TK} {n : Nat} {r : Row} (h : repRow k n = some r) : ∃ zd, zk k = some zd ∧ r.cells = List.replicate n (zd.av F) ∧ r.len = n := by
  unfold repRow at h
  split at h <;> cases h <;> exact ⟨_, rfl, by simp [Row.cells, DV.av], by simp [Row.len]⟩
theorem clearD_ok (hT : TOk P T) (hs : St F L H) {t : TypeId} {x y : DV} {L' : List DBlk} (hx : x.Ok F L) (h : (clearD T t x L).run = some (y, L')) :
    ∃ H', builtinA P H .clear [t] [x.av F] = some (y.av F, H') ∧ St F L' H' ∧ y.Ok F L' ∧ Ext L L' := by
  unfold clearD at h
  split at h
  case h_2 => cases h
  rename_i e _ _ _ _ hTt
  have hu : P.underlying t = some (.slice e) := (hT t _ hTt).und
  split at h
  case h_2 => cases h
  rename_i k zo hTe
  obtain ⟨inf, z, i1, i2, i3, i4, i5, i6, i7⟩ := (hT e _ hTe).el rfl rfl
  have goal : ∀ (j off len v : Nat) (r yr r' : Row), L[j]? = some (.row r v) → repRow k len = some yr → off + len ≤ r.len → r.over off yr = some r' → (y, L') = (.tup [], L.set j (.row r' v)) →
      ∃ H', builtinA P H .clear [t] [.slc ⟨F.abs j, off, r.len⟩ len] = some (y.av F, H') ∧ St F L' H' ∧ y.Ok F L' ∧ Ext L L' := by
    intro j off len v r yr r' hj hy hb ho he
    simp only [Prod.mk.injEq] at he
    obtain ⟨rfl, rfl⟩ := he
    obtain ⟨zd, z1, z2, z3⟩ := repRow_spec (F := F) hy
    obtain ⟨o1, o2⟩ := Row.over_spec ho (by rw [z3]; exact hb)
    have hok : r.len ≤ maxN := hs.ok j _ hj
    have hext : Ext L (L.set j (.row r' v)) := Ext.set (b := .row r v) (b' := .row r' v) hj (Nat.le_refl _) (by simp [DBlk.clen, o2]) fun _ => by simp [DBlk.clen, o2]
    have hst := hs.set hj hext (show DBlk.Ok F _ (.row r' v) from by show r'.len ≤ maxN; omega)
    by_cases hn : len = 0
    · subst hn
      have yr0 : yr.cells = [] := by rw [z2]; rfl
      rw [yr0] at o1
      have same : r'.cells = r.cells := by rw [o1]; rfl
      refine ⟨_, ?_, hst, trivial, hext⟩
      simp only [builtinA, clearA, elemA, hu, Option.bind_some, hs.blk j _ hj]
      rw [if_pos (by rw [DBlk.blk_len]; rfl), if_pos trivial]
      simp only [DV.av, DVs.av, Option.some.injEq, Prod.mk.injEq, true_and]
      have e1 : DBlk.blk F (.row r' v) = DBlk.blk F (.row r v) := by simp only [DBlk.blk, same]
      rw [e1]
      have hlt := (List.getElem?_eq_some_iff.1 (hs.blk j _ hj)).1
      refine List.ext_getElem? fun i => ?_
      rw [List.getElem?_set]
      by_cases e : F.abs j = i
      · subst e; rw [if_pos rfl, if_pos hlt]; exact hs.blk j _ hj
      · rw [if_neg e]
    · refine ⟨_, ?_, hst, trivial, hext⟩
      simp only [builtinA, clearA, elemA, hu, Option.bind_some, hs.blk j _ hj, i1, i4]
      rw [if_pos (by rw [DBlk.blk_len]; rfl), if_neg hn, if_pos ⟨by rw [i5], DBlk.blk_sz _ _⟩, i7 zd z1 F, ← z2]
      simp only [stN, hs.blk j _ hj]
      rw [if_pos ⟨DBlk.blk_own _ _, by rw [DBlk.blk_len]; rfl, by rw [DBlk.blk_len, yr.cells_len, z3]; exact hb, (row_ok yr H).1, fun _ => (row_ok yr H).2⟩]
      simp [DV.av, DVs.av, DBlk.blk, o1]
  split at h
  · simp only [Tree.run, Option.some.injEq, Prod.mk.injEq] at h
    obtain ⟨rfl, rfl⟩ := h
    refine ⟨H, ?_, hs, trivial, Ext.refl _⟩
    simp [builtinA, clearA, elemA, hu, DV.av, DVs.av]
  · rename_i j ver len
    obtain ⟨b, h1, h2, h3, h4, h5⟩ := hx
    split at h
    · rename_i r v yr hg hy
      obtain ⟨g1, g2⟩ := good_spec hg
      rw [h1] at g1; cases g1
      have hal : len = r.len := h4 g2.symm
      obtain ⟨r', hr', h⟩ := optT_run h
      simp only [Tree.run, Option.some.injEq] at h
      have := goal j 0 len v r yr r' h1 hy (by omega) hr' h.symm
      rw [DV.av, hal]
      rw [hal] at this
      exact this
    · cases h
  · rename_i j off ver alen len
    obtain ⟨b, h1, h2, h3, h4, h5⟩ := hx
    split at h
    · rename_i r v yr hg hy
      obtain ⟨g1, g2⟩ := good_spec hg
      rw [h1] at g1; cases g1
      rw [Tree.run] at h
      split at h
      case isFalse => cases h
      rename_i hb
      obtain ⟨r', hr', h⟩ := optT_run h
      simp only [Tree.run, Option.some.injEq] at h
      have := goal j off len v r yr r' h1 hy (of_decide_eq_true hb) hr' h.symm
      have hal : alen = r.len := h5.1 g2.symm
      rw [DV.av, hal]
      exact this
    · cases h
  · cases h
theorem makeD_ok (hT : TOk P T) (hs : St F L H) {t : TypeId} {l c y : DV} {L' : List DBlk} (h : (makeD T t l c L).run = some (y, L')) :
    ∃ H', makeA P H t (l.av F) (c.av F) = some (y.av F, H') ∧ St F L' H' ∧ y.Ok F L' ∧ Ext L L' := by
  unfold makeD at h
  split at h
  · rename_i e _ _ _ _ k1 n k2 m hTt
    have hu : P.underlying t = some (.slice e) := (hT t _ hTt).und
    split at h
    · rename_i k zo hTe
      obtain ⟨inf, z, i1, i2, i3, i4, i5, i6, i7⟩ := (hT e _ hTe).el rfl rfl
      have ihp : inf.hasPointers = false := by simpa using i6
      split at h
      · rename_i r hr
        simp only [Tree.run] at h
        split at h
        · rename_i hmn
          subst hmn
          split at h
          · rename_i hb
            rw [inb_iff] at hb
            simp only [Option.some.injEq, Prod.mk.injEq] at h
            obtain ⟨rfl, rfl⟩ := h
            obtain ⟨zd, z1, z2, z3⟩ := repRow_spec (F := F) hr
            have hok : DBlk.Ok F (L ++ [.row r 0]) (.row r 0) := by show r.len ≤ maxN; omega
            obtain ⟨n1, n2⟩ := newA_ok' hs hok (fun _ => (row_ok r H).2) (sz := 1) (fl := !inf.hasPointers) (cs := r.cells) rfl rfl (by simp [DBlk.blk, ihp])
            refine ⟨_, ?_, n2, ⟨.row r 0, by simp, Nat.le_refl _, Nat.le_of_eq z3.symm, fun _ => z3.symm, by omega⟩, Ext.push _ _⟩
            have hb2 := hb.2
            unfold maxN at hb2
            simp only [DV.av, makeA, elemA, hu, Option.bind_some, i1, i4]
            rw [if_pos ⟨hb.1, trivial, by omega, i3, i2, i5⟩, i7 zd z1 F, ← z2, n1]
            simp [r.cells_len, z3]
          · cases h
        · cases h
      · cases h
    · cases h
  · cases h

theorem bin_and {P : Program} {H : Heap} {t : TypeId} (k : IntKind) (a b : Int) : binA P H .and t (.int k a) (.int k b) = some (.int k (iand k a b)) := by
  simp only [binA, Go.binOp, ne_eq, not_true_eq_false, if_false, Op.intBits]; rfl
theorem bin_or {P : Program} {H : Heap} {t : TypeId} (k : IntKind) (a b : Int) : binA P H .or t (.int k a) (.int k b) = some (.int k (ior k a b)) := by
  simp only [binA, Go.binOp, ne_eq, not_true_eq_false, if_false, Op.intBits]; rfl
theorem bin_shl {P : Program} {H : Heap} {t : TypeId} (k k' : IntKind) (a b : Int) (hb : 0 ≤ b) : binA P H .shl t (.int k a) (.int k' b) = some (.int k (ishl k a b)) := by
  have : ¬ b < 0 := by omega
  simp only [binA, Go.binOp, Op.shift, this, if_false]; rfl
theorem bin_shr {P : Program} {H : Heap} {t : TypeId} (k k' : IntKind) (a b : Int) (hb : 0 ≤ b) : binA P H .shr t (.int k a) (.int k' b) = some (.int k (ishr k a b)) := by
  have : ¬ b < 0 := by omega
  simp only [binA, Go.binOp, Op.shift, this, if_false]; rfl
theorem binD_ok (hT : TOk P T) (hs : St F L H) {op : BinOp} {t : TypeId} {x y z : DV} {L' : List DBlk} (hx : x.Ok F L) (h : (binD T op t x y L).run = some (z, L')) :
    binA P H op t (x.av F) (y.av F) = some (z.av F) ∧ z.Ok F L ∧ L' = L := by
  have ints : ∀ (k : IntKind) (a b : Int), (ibinD op k a b L).run = some (z, L') → binA P H op t (.int k a) (.int k b) = some (z.av F) ∧ z.Ok F L ∧ L' = L := by
    intro k a b h
    unfold ibinD at h
    cases op <;> simp only [Tree.run, shD, Option.some.injEq, Prod.mk.injEq, reduceCtorEq] at h
    case shl =>
      split at h
      · rename_i hb
        simp only [Option.some.injEq, Prod.mk.injEq] at h
        obtain ⟨rfl, rfl⟩ := h
        exact ⟨bin_shl k k a b (by simpa using hb), trivial, rfl⟩
      · cases h
    case shr =>
      split at h
      · rename_i hb
        simp only [Option.some.injEq, Prod.mk.injEq] at h
        obtain ⟨rfl, rfl⟩ := h
        exact ⟨bin_shr k k a b (by simpa using hb), trivial, rfl⟩
      · cases h
    case quo =>
      split at h
      · rename_i hb
        simp only [Option.some.injEq, Prod.mk.injEq] at h
        obtain ⟨rfl, rfl⟩ := h
        exact ⟨bin_quo k k a b rfl (by simpa using hb), trivial, rfl⟩
      · cases h
    case rem =>
      split at h
      · rename_i hb
        simp only [Option.some.injEq, Prod.mk.injEq] at h
        obtain ⟨rfl, rfl⟩ := h
        exact ⟨bin_rem k k a b rfl (by simpa using hb), trivial, rfl⟩
      · cases h
    case and => obtain ⟨rfl, rfl⟩ := h; exact ⟨bin_and k a b, trivial, rfl⟩
    case or => obtain ⟨rfl, rfl⟩ := h; exact ⟨bin_or k a b, trivial, rfl⟩
    all_goals (obtain ⟨rfl, rfl⟩ := h; refine ⟨?_, trivial, rfl⟩; simp [binA, DV.av])
  have flts : ∀ (k : FloatKind) (a b : Nat), (fbinD op k a b L).run = some (z, L') → binA P H op t (.flt k a) (.flt k b) = some (z.av F) ∧ z.Ok F L ∧ L' = L := by
    intro k a b h
    unfold fbinD at h
    cases op <;> simp only [Tree.run, Option.some.injEq, Prod.mk.injEq, reduceCtorEq] at h
    all_goals (obtain ⟨rfl, rfl⟩ := h; refine ⟨?_, trivial, rfl⟩; simp [binA, DV.av, fbin])
  have bools : ∀ (a b : Bool), (match T t with | some ⟨.bool, _, _, _, _⟩ => bbinD op a b L | _ => .fail).run = some (z, L') → binA P H op t (.bool a) (.bool b) = some (z.av F) ∧ z.Ok F L ∧ L' = L := by
    intro a b h
    split at h
    · rename_i hTt
      have hu : P.underlying t = some .bool := (hT t _ hTt).und
      unfold bbinD at h
      cases op <;> simp only [Tree.run, Option.some.injEq, Prod.mk.injEq, reduceCtorEq] at h
      all_goals (obtain ⟨rfl, rfl⟩ := h; refine ⟨?_, trivial, rfl⟩; simp [binA, DV.av, hu])
    · cases h
  have strs : ∀ (a b : ByteArray), (sbinD op a b L).run = some (z, L') → binA P H op t (.str a) (.str b) = some (z.av F) ∧ z.Ok F L ∧ L' = L := by
    intro a b h
    unfold sbinD at h
    cases op <;> simp only [Tree.run, Option.some.injEq, Prod.mk.injEq, reduceCtorEq] at h
    case add =>
      split at h
      · rename_i hf
        rw [fits_iff] at hf
        unfold maxN at hf
        simp only [Option.some.injEq, Prod.mk.injEq] at h
        obtain ⟨rfl, rfl⟩ := h
        refine ⟨?_, trivial, rfl⟩
        have hm : IntKind.i64.max = 9223372036854775807 := by decide
        have : ¬ ((a.size + b.size : Nat) : Int) > IntKind.i64.max := by rw [hm]; omega
        simp only [binA, Op.stringOp, this, if_false]
        rfl
      · cases h
    all_goals (obtain ⟨rfl, rfl⟩ := h; refine ⟨?_, trivial, rfl⟩; simp only [binA, Op.stringOp]; rfl)
  have shs : ∀ (k k' : IntKind) (a b : Int), (shD op k a b L).run = some (z, L') → binA P H op t (.int k a) (.int k' b) = some (z.av F) ∧ z.Ok F L ∧ L' = L := by
    intro k k' a b h
    unfold shD at h
    cases op <;> simp only [Tree.run, Option.some.injEq, Prod.mk.injEq, reduceCtorEq] at h
    case shl =>
      split at h
      · rename_i hb
        simp only [Option.some.injEq, Prod.mk.injEq] at h
        obtain ⟨rfl, rfl⟩ := h
        exact ⟨bin_shl k k' a b (by simpa using hb), trivial, rfl⟩
      · cases h
    case shr =>
      split at h
      · rename_i hb
        simp only [Option.some.injEq, Prod.mk.injEq] at h
        obtain ⟨rfl, rfl⟩ := h
        exact ⟨bin_shr k k' a b (by simpa using hb), trivial, rfl⟩
      · cases h
  unfold binD at h
  split at h
  · exact ints _ _ _ h
  · exact ints _ _ _ h
  · exact ints _ _ _ h
  · exact ints _ _ _ h
  · exact shs _ _ _ _ h
  · exact shs _ _ _ _ h
  · exact flts _ _ _ h
  · exact flts _ _ _ h
  · exact strs _ _ h
  · exact bools _ _ h
  · exact bools _ _ h
  · exact bools _ _ h
  · exact bools _ _ h
  · split at h
    · rename_i hTt
      have hu : P.underlying t = some (.slice _) := (hT t _ hTt).und
      unfold nilD at h
      cases op <;> simp only [Tree.run, Option.some.injEq, Prod.mk.injEq, reduceCtorEq] at h
      all_goals (obtain ⟨rfl, rfl⟩ := h; refine ⟨?_, trivial, rfl⟩; simp [binA, DV.av, hu])
    · cases h
  · rename_i j ver len
    split at h
    · rename_i hTt hg
      have hu : P.underlying t = some (.slice _) := (hT t _ hTt).und
      obtain ⟨b, h1, h2, h3, h4, h5⟩ := hx
      have := (good_spec hg).1
      rw [h1] at this; cases this
      have hl := hs.live (off := 0) hg h4
      unfold nilD at h
      cases op <;> simp only [Tree.run, Option.some.injEq, Prod.mk.injEq, reduceCtorEq] at h
      all_goals (obtain ⟨rfl, rfl⟩ := h; refine ⟨?_, trivial, rfl⟩; simp [binA, DV.av, hu, hl])
    · cases h
  · rename_i s r
    split at h
    · rename_i hTt
      have hu : P.underlying t = some (.slice _) := (hT t _ hTt).und
      simp only [Tree.run] at h
      split at h
      · rename_i hpos
        have hpos : 0 < r.len := by simpa using hpos
        rcases hx H hs.ag with ⟨e, h0⟩ | ⟨p, B, e, k1, k2, _⟩
        · omega
        · have hl : AM.live H p = true := live_iff.2 ⟨B, k1, k2⟩
          unfold nilD at h
          cases op <;> simp only [Tree.run, Option.some.injEq, Prod.mk.injEq, reduceCtorEq] at h
          all_goals (obtain ⟨rfl, rfl⟩ := h; refine ⟨?_, trivial, rfl⟩; simp [binA, DV.av, e, hu, hl])
      · cases h
    · cases h
  · cases h

theorem unD_ok {op : UnOp} {x z : DV} {L' : List DBlk} (h : (unD op x L).run = some (z, L')) : unA op (x.av F) = some (z.av F) ∧ z.Ok F L ∧ L' = L := by
  unfold unD at h
  split at h <;> simp only [Tree.run, Option.some.injEq, Prod.mk.injEq, reduceCtorEq] at h
  all_goals (obtain ⟨rfl, rfl⟩ := h; refine ⟨?_, trivial, rfl⟩; first | rfl | simp [unA, DV.av])
end
end Go.Proofs.Ythdmkdkbfhoahaa.AM
