import Derived.Test.YtmgpbchacndndaaD4
set_option linter.unusedSimpArgs false
set_option linter.unusedVariables false
namespace Go.Proofs.Ytmgpbchacndndaa.AM
section
variable {P : Program} {T : TyT} {F : Fr} {L : List DBlk} {H : Heap}
theorem Acy_ (hT : TOk P T) (hs : St F L H) {t : TypeId} {x y : DV} {L' : List DBlk} (hx : x.Ok F L) (h : (lenD T t x L).run = some (y, L')) :
    Ap_ P H .len [t] [x.av F] = some (y.av F, H) ∧ y.Ok F L ∧ L' = L := by
  unfold lenD at h
  split at h
  · rename_i _ _ _ _ s hTt
    have hu : P.underlying t = some .string := (hT t _ hTt).und
    simp only [Tree.run, Option.some.injEq, Prod.mk.injEq] at h
    obtain ⟨rfl, rfl⟩ := h
    exact ⟨by simp [DV.av, Ap_, hu], trivial, rfl⟩
  · rename_i e _ _ _ _ hTt
    have hu : P.underlying t = some (.slice e) := (hT t _ hTt).und
    simp only [Tree.run, Option.some.injEq, Prod.mk.injEq] at h
    obtain ⟨rfl, rfl⟩ := h
    exact ⟨by simp [DV.av, Ap_, hu], trivial, rfl⟩
  · rename_i e _ _ _ _ j ver len hTt
    have hu : P.underlying t = some (.slice e) := (hT t _ hTt).und
    obtain ⟨b, h1, h2, h3, h4, h5⟩ := hx
    split at h
    · rename_i b' hg
      have := (Al_ hg).1
      rw [h1] at this; cases this
      simp only [Tree.run, Option.some.injEq, Prod.mk.injEq] at h
      obtain ⟨rfl, rfl⟩ := h
      exact ⟨by simp [DV.av, Ap_, hu, hs.live hg h4], trivial, rfl⟩
    · cases h
  · rename_i e _ _ _ _ j off ver alen len hTt
    have hu : P.underlying t = some (.slice e) := (hT t _ hTt).und
    obtain ⟨b, h1, h2, h3, h4, h5, h6⟩ := hx
    split at h
    · rename_i b' hg
      have := (Al_ hg).1
      rw [h1] at this; cases this
      simp only [Tree.run, Option.some.injEq, Prod.mk.injEq] at h
      obtain ⟨rfl, rfl⟩ := h
      exact ⟨by simp [DV.av, Ap_, hu, hs.live hg h5], trivial, rfl⟩
    · cases h
  · rename_i e _ _ _ _ s r hTt
    have hu : P.underlying t = some (.slice e) := (hT t _ hTt).und
    simp only [Tree.run, Option.some.injEq, Prod.mk.injEq] at h
    obtain ⟨rfl, rfl⟩ := h
    refine ⟨?_, trivial, rfl⟩
    rcases hx H hs.ag with ⟨e, h0⟩ | ⟨p, B, e, k1, k2, _⟩
    · simp [DV.av, e, Ap_, hu, h0]
    · simp [DV.av, e, Ap_, hu, Av_.2 ⟨B, k1, k2⟩]
  · rename_i e _ _ _ _ s n hTt
    have hu : P.underlying t = some (.slice e) := (hT t _ hTt).und
    simp only [Tree.run, Option.some.injEq, Prod.mk.injEq] at h
    obtain ⟨rfl, rfl⟩ := h
    refine ⟨?_, trivial, rfl⟩
    rcases hx H hs.ag with ⟨e, h0⟩ | ⟨p, B, e, k1, k2, _⟩
    · simp [DV.av, e, Ap_, hu, h0]
    · simp [DV.av, e, Ap_, hu, Av_.2 ⟨B, k1, k2⟩]
  · rename_i e _ _ _ _ n cols hTt
    have hu : P.underlying t = some (.slice e) := (hT t _ hTt).und
    simp only [Tree.run, Option.some.injEq, Prod.mk.injEq] at h
    obtain ⟨rfl, rfl⟩ := h
    refine ⟨?_, trivial, rfl⟩
    rcases (hx H hs.ag).at' with ⟨e, h0⟩ | ⟨p, B, e, k1, k2, _⟩
    · simp [DV.av, e, Ap_, hu, h0]
    · simp [DV.av, e, Ap_, hu, Av_.2 ⟨B, k1, k2⟩]
  · rename_i e _ _ _ _ j ver es len hTt
    have hu : P.underlying t = some (.slice e) := (hT t _ hTt).und
    obtain ⟨b, h1, h2, h3, h4, h5⟩ := hx
    split at h
    · rename_i q hg
      obtain ⟨cols, fl⟩ := q
      obtain ⟨q1, q2, q3, q4, q5, q6⟩ := Bz_ hs hg h1 h4
      simp only [Tree.run, Option.some.injEq, Prod.mk.injEq] at h
      obtain ⟨rfl, rfl⟩ := h
      exact ⟨by simp [DV.av, Ap_, hu, (show AM.live H ⟨F.abs j, 0, len * es⟩ = true from Av_.2 ⟨_, q5, q6.symm⟩)], trivial, rfl⟩
    · cases h
  · rename_i e _ _ _ _ j c k len hTt
    have hu : P.underlying t = some (.slice e) := (hT t _ hTt).und
    split at h
    · rename_i q hi
      obtain ⟨inn, idx⟩ := q
      obtain ⟨g1, g2, g3, g4⟩ := Cw_ hs hi hx
      simp only [Tree.run, Option.some.injEq, Prod.mk.injEq] at h
      obtain ⟨rfl, rfl⟩ := h
      refine ⟨?_, trivial, rfl⟩
      cases k with
      | zero => rw [inn.get0] at g2; simp [DV.av, Ap_, hu, g2]
      | succ m => simp [DV.av, Ap_, hu, (show AM.live H ⟨F.pl j (c + 1) m, 0, len⟩ = true from Av_.2 ⟨_, g4 m rfl, by simp only [Row.cells_len]; exact g2⟩)]
    · cases h
  · cases h
theorem Reads.rdS {s : AV} {r : Row} (h : Reads H s r) : AM.rdS H s = some r.cells ∧ lenS s = some r.len := by
  rcases h with ⟨rfl, h0⟩ | ⟨p, B, rfl, k1, k2, k3, k4, k5, _⟩
  · have : r.cells = [] := List.eq_nil_of_length_eq_zero (by rw [r.cells_len, h0])
    simp [AM.rdS, lenS, this, h0]
  · simp only [AM.rdS, lenS, k1, k3, Nat.mul_one, and_true]
    rw [if_pos ⟨k2, k4⟩, k5]
theorem Ce_ (r : Row) (H : Heap) : r.cells.all (A5_ H) = true ∧ r.cells.all AV.isFlat = true := by
  refine ⟨List.all_eq_true.2 fun c hc => ?_, List.all_eq_true.2 r.cells_flat⟩
  have := r.cells_flat c hc
  cases c <;> first | rfl | (simp [AV.isFlat] at this)
theorem Vu_ (l : List AV) (o : Nat) (vs : List AV) (h : o + vs.length ≤ l.length) : putAt l o vs = overL l o vs := by
  unfold overL
  refine List.ext_getElem? fun i => ?_
  rw [Qr_ _ _ _ _ h]
  by_cases h1 : i < o
  · rw [if_neg (by omega), List.append_assoc, List.getElem?_append_left (by simp; omega), List.getElem?_take, if_pos h1]
  · by_cases h2 : i < o + vs.length
    · rw [if_pos ⟨by omega, h2⟩, List.getElem?_append_left (by simp; omega), List.getElem?_append_right (by simp; omega)]
      congr 1
      simp; omega
    · rw [if_neg (by omega), List.getElem?_append_right (by simp; omega), List.getElem?_drop]
      congr 1
      simp; omega
theorem Agx_ {α β : Type} (f : α → β) (xs ys : List α) (o : Nat) : (overL xs o ys).map f = overL (xs.map f) o (ys.map f) := by
  simp [overL, List.map_take, List.map_drop]
theorem Abl_ {α : Type} (xs ys : List α) (o : Nat) (h : o + ys.length ≤ xs.length) : (overL xs o ys).length = xs.length := by
  simp [overL]; omega
theorem Row.over_spec {r s t : Row} {o : Nat} (h : r.over o s = some t) (hl : o + s.len ≤ r.len) : t.cells = putAt r.cells o s.cells ∧ t.len = r.len := by
  have hc : o + s.cells.length ≤ r.cells.length := by rw [s.cells_len, r.cells_len]; exact hl
  rw [Vu_ _ _ _ hc]
  unfold Row.over at h
  split at h <;> cases h <;> refine ⟨by simp only [Row.cells, Agx_], ?_⟩ <;> simp only [Row.len] at hl ⊢ <;> exact Abl_ _ _ _ hl
theorem Yd_ (b : ByteArray) : (Row.u8 (numsS b)).len = b.size := by simp only [Row.len, numsS, List.length_map, Array.length_toList]; rfl
theorem Yt_ (b : ByteArray) : Bk_ b = (Row.u8 (numsS b)).cells := by simp [Bk_, Row.cells, numsS]
theorem NRow.app_spec {inn inn1 innT : NRow} (h : inn.app inn1 = some innT) : innT.n = inn.n + inn1.n ∧ (∀ k, k ≤ inn.n → innT.get k = inn.get k) ∧ ∀ k, innT.get (inn.n + (k + 1)) = inn1.get (k + 1) := by
  have key : ∀ {α : Type} (xs ys : List (List α)), (xs ++ ys).length = xs.length + ys.length ∧ (∀ k, k ≤ xs.length → nget (xs ++ ys) k = nget xs k) ∧ ∀ k, nget (xs ++ ys) (xs.length + (k + 1)) = nget ys (k + 1) := fun xs ys => by
    refine ⟨by simp, fun k hk => ?_, fun k => ?_⟩
    · cases k with
      | zero => rfl
      | succ k => simp only [nget]; rw [Ao_ _ _ (by simp; omega), Ao_ _ _ (by omega), List.getElem_append_left (by omega)]
    · show nth (xs ++ ys) (xs.length + k) = nth ys k
      unfold nth
      rw [List.getD_eq_getElem?_getD, List.getD_eq_getElem?_getD, List.getElem?_append_right (by omega), Nat.add_sub_cancel_left]
  cases inn with
  | f32 xs =>
    cases inn1 with
    | f32 ys =>
      simp only [NRow.app, Option.some.injEq] at h
      subst h
      obtain ⟨k1, k2, k3⟩ := key xs ys
      exact ⟨k1, fun k hk => by simp only [NRow.get, k2 k hk], fun k => by simp only [NRow.get, NRow.n, k3]⟩
    | _ => simp [NRow.app] at h
  | f64 xs =>
    cases inn1 with
    | f64 ys =>
      simp only [NRow.app, Option.some.injEq] at h
      subst h
      obtain ⟨k1, k2, k3⟩ := key xs ys
      exact ⟨k1, fun k hk => by simp only [NRow.get, k2 k hk], fun k => by simp only [NRow.get, NRow.n, k3]⟩
    | _ => simp [NRow.app] at h
  | i64 xs =>
    cases inn1 with
    | i64 ys =>
      simp only [NRow.app, Option.some.injEq] at h
      subst h
      obtain ⟨k1, k2, k3⟩ := key xs ys
      exact ⟨k1, fun k hk => by simp only [NRow.get, k2 k hk], fun k => by simp only [NRow.get, NRow.n, k3]⟩
    | _ => simp [NRow.app] at h
inductive AppC : Col → Col → Col → Prop where
  | pl (r s t : Row) (h : r.app s = some t) : AppC (.pl r) (.pl s) (.pl t)
  | sl (inn inn1 innT : NRow) (idx idx1 : List Nat) (h : inn.app inn1 = some innT) : AppC (.sl inn idx) (.sl inn1 idx1) (.sl innT (idx ++ idx1.map (D2_ inn.n)))
theorem O8_ : ∀ {a b t : List Col}, B6_ a b = some t → t.length = a.length ∧ b.length = a.length ∧ ∀ (c : Nat) (z : Col), t[c]? = some z → ∃ x y, a[c]? = some x ∧ b[c]? = some y ∧ AppC x y z
  | [], [], t, h => by simp only [B6_, Option.some.injEq] at h; subst h; exact ⟨rfl, rfl, by simp⟩
  | .pl r :: a, .pl s :: b, t, h => by
    simp only [B6_] at h
    split at h
    · rename_i z l hz hl
      cases h
      obtain ⟨k1, k2, k3⟩ := O8_ hl
      refine ⟨by simp [k1], by simp [k2], fun c z hc => ?_⟩
      cases c with
      | zero => simp at hc; subst hc; exact ⟨_, _, rfl, rfl, .pl _ _ _ hz⟩
      | succ c => exact k3 c z (by simpa using hc)
    · cases h
  | .sl inn idx :: a, .sl inn1 idx1 :: b, t, h => by
    simp only [B6_] at h
    split at h
    · rename_i z l hz hl
      cases h
      obtain ⟨k1, k2, k3⟩ := O8_ hl
      refine ⟨by simp [k1], by simp [k2], fun c z hc => ?_⟩
      cases c with
      | zero => simp at hc; subst hc; exact ⟨_, _, rfl, rfl, .sl _ _ _ _ _ hz⟩
      | succ c => exact k3 c z (by simpa using hc)
    · cases h
  | [], _ :: _, _, h => by simp [B6_] at h
  | .pl _ :: _, [], _, h => by simp [B6_] at h
  | .sl _ _ :: _, [], _, h => by simp [B6_] at h
  | .pl _ :: _, .sl _ _ :: _, _, h => by simp [B6_] at h
  | .sl _ _ :: _, .pl _ :: _, _, h => by simp [B6_] at h
def Aeq_ (a t : Col) : Col := match a, t with | .sl _ idx, .sl innT _ => .sl innT idx | a, _ => a
theorem Acl_ (hs : St F L H) {j : Nat} {cols : List Col} {fl : Bool} {v : Nat} (hb : L[j]? = some (.nest cols fl v)) : (Ac_ F j cols).all (A5_ H) = true ∧ (fl = true → (Ac_ F j cols).all AV.isFlat = true) := by
  obtain ⟨o1, o2, o3⟩ := hs.ok j _ hb
  have key : ∀ a ∈ Ac_ F j cols, A5_ H a = true ∧ (fl = true → a.isFlat = true) := fun a ha => by
    unfold Ac_ at ha
    rw [List.mem_map] at ha
    obtain ⟨p, hp, rfl⟩ := ha
    rw [List.mem_range] at hp
    have hd : p % cols.length < cols.length := Nat.mod_lt _ o2
    have hy : p / cols.length < colsN cols := Nat.div_lt_of_lt_mul (by rw [Nat.mul_comm]; exact hp)
    rw [List.getElem?_eq_getElem hd]
    simp only
    have hc := o3 _ (List.getElem_mem hd)
    have hok := Tq_ hs hb hy (List.getElem?_eq_getElem hd)
    cases hcc : cols[p % cols.length] with
    | pl r =>
      have hf := Da_ F (r.get_flat (p / cols.length))
      refine ⟨?_, fun _ => hf⟩
      simp only [Col.cell]
      generalize (r.get (p / cols.length)).av F = w at hf
      cases w <;> first | rfl | (simp [AV.isFlat] at hf)
    | sl inn idx =>
      rw [hcc] at hc hok
      refine ⟨Xe_ hs hok ?_, fun e => by rw [hc.2.1] at e; cases e⟩
      simp only [Col.cell, okC, innAt, hb, List.getElem?_eq_getElem hd, hcc]
  exact ⟨List.all_eq_true.2 fun a ha => (key a ha).1, fun e => List.all_eq_true.2 fun a ha => (key a ha).2 e⟩
theorem Apy_ {F F' : Fr} {j j1 : Nat} {cols cols1 cols' : List Col} (hl : cols'.length = cols.length) (hl1 : cols1.length = cols.length) (hn : colsN cols' = colsN cols + colsN cols1)
    (h : ∀ (c y : Nat) (z : Col), cols'[c]? = some z → y < colsN cols → ∃ x, cols[c]? = some x ∧ (z.cell j c y).av F' = (x.cell j c y).av F)
    (h1 : ∀ (c y : Nat) (z : Col), cols'[c]? = some z → y < colsN cols1 → ∃ x, cols1[c]? = some x ∧ (z.cell j c (colsN cols + y)).av F' = (x.cell j1 c y).av F) : Ac_ F' j cols' = Ac_ F j cols ++ Ac_ F j1 cols1 := by
  refine List.ext_getElem? fun p => ?_
  rcases Nat.eq_zero_or_pos cols.length with h0 | hpos
  · have e1 : Ac_ F' j cols' = [] := List.eq_nil_of_length_eq_zero (by simp [hl, h0])
    have e2 : Ac_ F j cols = [] := List.eq_nil_of_length_eq_zero (by simp [h0])
    have e3 : Ac_ F j1 cols1 = [] := List.eq_nil_of_length_eq_zero (by simp [hl1, h0])
    rw [e1, e2, e3]; rfl
  rcases Nat.lt_or_ge p ((colsN cols + colsN cols1) * cols.length) with hp | hp
  · have hd : p % cols.length < cols.length := Nat.mod_lt _ hpos
    have hy : p / cols.length < colsN cols + colsN cols1 := Nat.div_lt_of_lt_mul (by rw [Nat.mul_comm]; exact hp)
    have hpe : p = p / cols.length * cols.length + p % cols.length := by
      have := Nat.div_add_mod p cols.length
      rw [Nat.mul_comm] at this; omega
    obtain ⟨y, hyd⟩ : ∃ y, y = p / cols.length := ⟨_, rfl⟩
    obtain ⟨d, hdd⟩ : ∃ d, d = p % cols.length := ⟨_, rfl⟩
    rw [← hyd, ← hdd] at hpe
    rw [← hyd] at hy
    rw [← hdd] at hd
    have hd' : d < cols'.length := by omega
    have e0 : (Ac_ F' j cols')[p]? = some (((cols'[d]).cell j d y).av F') := by
      have := Hl_ F' j cols' (x := y) (by rw [hn]; exact hy) (List.getElem?_eq_getElem hd')
      rw [hl, ← hpe] at this; exact this
    rw [e0]
    rcases Nat.lt_or_ge y (colsN cols) with hyl | hyl
    · obtain ⟨x, x1, x2⟩ := h d y _ (List.getElem?_eq_getElem hd') hyl
      rw [List.getElem?_append_left (by rw [Dq_, hpe]; exact lt_el hyl hd), x2]
      have := Hl_ F j cols hyl x1
      rw [← hpe] at this; exact this.symm
    · obtain ⟨m, rfl⟩ : ∃ m, y = colsN cols + m := ⟨y - colsN cols, by omega⟩
      obtain ⟨x, x1, x2⟩ := h1 d m _ (List.getElem?_eq_getElem hd') (by omega)
      have hge : (Ac_ F j cols).length ≤ p := by
        rw [Dq_, hpe, Nat.add_mul]; omega
      rw [List.getElem?_append_right hge, x2]
      have := Hl_ F j1 cols1 (x := m) (by omega) x1
      rw [hl1] at this
      have hidx : p - (Ac_ F j cols).length = m * cols.length + d := by
        rw [Dq_, hpe, Nat.add_mul]; omega
      rw [hidx]; exact this.symm
  · rw [List.getElem?_eq_none (by rw [Dq_, hn, hl]; exact hp), List.getElem?_eq_none (by rw [List.length_append, Dq_, Dq_, hl1, ← Nat.add_mul]; exact hp)]
theorem Ahi_ (hT : TOk P T) (hs : St F L H) {t e : TypeId} {ei : TyI} {j ver es len j1 ver1 es1 len1 : Nat} {y : DV} {L' : List DBlk} (hu : P.underlying t = some (.slice e)) (hTe : T e = some ei) (hsv : (DV.nest j ver es len).Ok F L) (hx : (DV.nest j1 ver1 es1 len1).Ok F L)
    (h : (K4_ ei j ver es len j1 ver1 es1 len1 L).run = some (y, L')) :
    ∃ F' H', FrLe F F' L ∧ Dw_ P H t t ((DV.nest j ver es len).av F) ((DV.nest j1 ver1 es1 len1).av F) = some (y.av F', H') ∧ St F' L' H' ∧ y.Ok F' L' ∧ Ext L L' := by
  unfold K4_ at h
  split at h
  case h_2 => cases h
  rename_i cols fl cols1 fl1 hg hg1 hjj hsm hes
  have hes := Nat.eq_of_beq_eq_true hes
  have hne : j ≠ j1 := fun e => by subst e; simp at hjj
  obtain ⟨hflc, h⟩ : (fl = true → fl1 = true) ∧ (optT (B6_ cols cols1) fun cols' => .grd (fits (len + len1)) (.leaf (.nest j (ver + 1) es (len + len1), (L.set j1 (.gone (len1 * es1) (ver1 + 1))).set j (.nest cols' fl (ver + 1)))) : Tree Rs).run = some (y, L') := by
    cases fl <;> cases fl1 <;> first | exact ⟨by simp, h⟩ | cases h
  obtain ⟨cols', hac, h⟩ := Aa_ h
  simp only [Tree.run] at h
  split at h
  case isFalse => cases h
  rename_i hf
  rw [Do_] at hf
  simp only [Option.some.injEq, Prod.mk.injEq] at h
  obtain ⟨rfl, rfl⟩ := h
  obtain ⟨b, b1, b2, b3, b4, b5⟩ := hsv
  obtain ⟨b', c1, c2, c3, c4, c5⟩ := hx
  obtain ⟨q1, q2, q3, q4, q5, q6⟩ := Bz_ hs hg b1 b4
  obtain ⟨r1, r2, r3, r4, r5, r6⟩ := Bz_ hs hg1 c1 c4
  obtain ⟨a1, a2, a3⟩ := O8_ hac
  obtain ⟨o1, o2, o3⟩ := hs.ok j _ q1
  obtain ⟨w1, w2, w3⟩ := hs.ok j1 _ r1
  have hjl := (List.getElem?_eq_some_iff.1 q1).1
  have hjl1 := (List.getElem?_eq_some_iff.1 r1).1
  have hes1 : es1 = es := by omega
  subst hes1
  -- the number of elements
  have hclen : ∀ (c : Nat) (x : Col), cols[c]? = some x → x.len = colsN cols := fun c x hc => by
    have := o3 x (List.mem_of_getElem? hc)
    cases x with
    | pl r => exact this
    | sl inn idx => exact this.1
  have hclen1 : ∀ (c : Nat) (x : Col), cols1[c]? = some x → x.len = colsN cols1 := fun c x hc => by
    have := w3 x (List.mem_of_getElem? hc)
    cases x with
    | pl r => exact this
    | sl inn idx => exact this.1
  have hzlen : ∀ (c : Nat) (z : Col), cols'[c]? = some z → z.len = colsN cols + colsN cols1 := fun c z hc => by
    obtain ⟨x, x1, k1, k2, k3⟩ := a3 c z hc
    rw [← hclen c x k1, ← hclen1 c x1 k2]
    cases k3 with
    | pl r s t h => exact (Row.app_spec h).2
    | sl inn inn1 innT idx idx1 h => simp [Col.len]
  have hN : colsN cols' = colsN cols + colsN cols1 := by
    cases hc' : cols' with
    | nil => rw [hc'] at a1; simp at a1; omega
    | cons z l => exact hzlen 0 z (by rw [hc']; rfl)
  -- the places
  obtain ⟨pool, hpool⟩ : ∃ pool : Nat → Nat, ∀ c inn idx, cols[c]? = some (.sl inn idx) → pool c = inn.n := ⟨fun c => match cols[c]? with | some (.sl inn _) => inn.n | _ => 0, fun c inn idx h => by simp only [h]⟩
  obtain ⟨g, hg'⟩ : ∃ g : Nat → Nat → Nat → Nat, g = fun a b d => if a = j ∧ 1 ≤ b ∧ pool (b - 1) ≤ d then F.pl j1 b (d - pool (b - 1)) else if a = j1 ∧ (blkAt F L a b d).isSome = false then F.abs j1 else F.pl a b d := ⟨_, rfl⟩
  have m1 : (blkAt F L j1 0 0).isSome = true := by rw [Am_ r1]; rfl
  have ga : ∀ a b d, a ≠ j → a ≠ j1 → g a b d = F.pl a b d := fun a b d h1 h2 => by
    rw [hg']; simp only
    rw [if_neg (fun e => h1 e.1), if_neg (fun e => h2 e.1)]
  have gj : ∀ b d, ¬ (1 ≤ b ∧ pool (b - 1) ≤ d) → g j b d = F.pl j b d := fun b d h => by
    rw [hg']; simp only
    rw [if_neg (fun e => h e.2), if_neg (fun e => hne e.1)]
  have gn : ∀ c d, g j (c + 1) (pool c + d) = F.pl j1 (c + 1) d := fun c d => by
    rw [hg']; simp only [Nat.add_sub_cancel]
    rw [if_pos ⟨trivial, by omega, by omega⟩, Nat.add_sub_cancel_left]
  have gl : ∀ b d, (blkAt F L j1 b d).isSome = true → g j1 b d = F.pl j1 b d := fun b d h => by
    rw [hg']; simp only
    rw [if_neg (fun e => hne e.1.symm), if_neg (fun e => by rw [h] at e; cases e.2)]
  have gd : ∀ b d, (blkAt F L j1 b d).isSome = false → g j1 b d = F.abs j1 := fun b d h => by
    rw [hg']; simp only
    rw [if_neg (fun e => hne e.1.symm), if_pos ⟨trivial, h⟩]
  have hle : FrLe F (F.wa g) L := by
    refine ⟨⟨g, rfl⟩, fun a _ => ?_, fun a cs' fl' w c' i' x' k h1 h2 h3 => ?_, fun a n w b d h1 => ?_⟩
    · by_cases haj : a = j
      · subst haj; exact gj 0 0 (by omega)
      · by_cases haj1 : a = j1
        · subst haj1; exact gl 0 0 m1
        · exact ga _ _ _ haj haj1
    · by_cases haj : a = j
      · subst haj
        rw [q1] at h1; cases h1
        refine gj _ _ fun e => ?_
        have := hpool c' i' x' h2
        simp only [Nat.add_sub_cancel] at e
        omega
      · by_cases haj1 : a = j1
        · subst haj1
          rw [r1] at h1; cases h1
          exact gl _ _ (by rw [Am_ r1, Ci_ h2 h3]; rfl)
        · exact ga _ _ _ haj haj1
    · exact ga _ _ _ (fun e => by subst e; rw [q1] at h1; cases h1) fun e => by subst e; rw [r1] at h1; cases h1
  -- the rows gone over, the cells not yet
  obtain ⟨colsA, hA⟩ : ∃ colsA, colsA = List.zipWith Aeq_ cols cols' := ⟨_, rfl⟩
  have hAl : colsA.length = cols.length := by rw [hA]; simp [a1]
  have hAc : ∀ (c : Nat) (x : Col), colsA[c]? = some x → (∃ r, x = .pl r ∧ cols[c]? = some (.pl r)) ∨ ∃ inn inn1 innT idx idx1, x = .sl innT idx ∧ cols[c]? = some (.sl inn idx) ∧ cols1[c]? = some (.sl inn1 idx1) ∧ inn.app inn1 = some innT ∧ cols'[c]? = some (.sl innT (idx ++ idx1.map (D2_ inn.n))) := fun c x hc => by
    rw [hA, List.getElem?_zipWith] at hc
    cases hz : cols'[c]? with
    | none => rw [hz] at hc; cases hcc : cols[c]? <;> rw [hcc] at hc <;> cases hc
    | some z =>
      obtain ⟨x0, x1, k1, k2, k3⟩ := a3 c z hz
      rw [k1, hz] at hc
      cases k3 with
      | pl r s t h => cases hc; exact .inl ⟨r, rfl, k1⟩
      | sl inn inn1 innT idx idx1 h => cases hc; exact .inr ⟨inn, inn1, innT, idx, idx1, rfl, k1, k2, h, rfl⟩
  have hAN : colsN colsA = colsN cols := by
    cases hc' : colsA with
    | nil => rw [hc'] at hAl; simp at hAl; omega
    | cons z l =>
      have h0 : colsA[0]? = some z := by rw [hc']; rfl
      show z.len = _
      rcases hAc 0 z h0 with ⟨r, rfl, k⟩ | ⟨inn, inn1, innT, idx, idx1, rfl, k, _⟩
      · exact hclen 0 _ k
      · exact hclen 0 (.sl inn idx) k
  obtain ⟨LA, hLA⟩ : ∃ LA, LA = (L.set j1 (.gone (len1 * es1) (ver1 + 1))).set j (.nest colsA fl ver) := ⟨_, rfl⟩
  have hget : ∀ a, LA[a]? = if a = j then some (.nest colsA fl ver) else if a = j1 then some (.gone (len1 * es1) (ver1 + 1)) else L[a]? := fun a => by
    rw [hLA, List.getElem?_set, List.getElem?_set]
    by_cases h1 : a = j
    · subst h1; simp [hjl]
    · rw [if_neg (fun e => h1 e.symm), if_neg h1]
      by_cases h2 : a = j1
      · subst h2; simp [hjl1]
      · rw [if_neg (fun e => h2 e.symm), if_neg h2]
  have hidxk : ∀ (c : Nat) (inn : NRow) (idx : List Nat) (y : Nat), cols[c]? = some (.sl inn idx) → y < colsN cols → nth idx y ≤ inn.n := fun c inn idx y hc hy => by
    obtain ⟨s1, s2, s3, s4⟩ := o3 _ (List.mem_of_getElem? hc)
    have hlt : y < idx.length := by rw [s1]; exact hy
    rw [Ao_ _ _ hlt]; exact s3 _ (List.getElem_mem hlt)
  have hcellA : ∀ (c y : Nat) (inn inn1 innT : NRow) (idx idx2 : List Nat), cols[c]? = some (.sl inn idx) → inn.app inn1 = some innT → y < colsN cols → nth idx2 y = nth idx y → ((Col.sl innT idx2).cell j c y).av (F.wa g) = ((Col.sl inn idx).cell j c y).av F := fun c y inn inn1 innT idx idx2 hc ha hy hi => by
    have hk := hidxk c inn idx y hc hy
    obtain ⟨n1, n2, n3⟩ := NRow.app_spec ha
    simp only [Col.cell, hi]
    rw [Cp_, Cp_]
    cases hkk : nth idx y with
    | zero => rfl
    | succ m =>
      rw [hkk] at hk
      have hp := hpool c inn idx hc
      simp only
      rw [n2 (m + 1) hk, show (F.wa g).pl j (c + 1) m = F.pl j (c + 1) m from gj _ _ fun e => by simp only [Nat.add_sub_cancel] at e; omega]
  have havA : Ac_ (F.wa g) j colsA = Ac_ F j cols := by
    refine Rg_ hAl hAN fun c y x hc hy => ?_
    rcases hAc c x hc with ⟨r, rfl, k⟩ | ⟨inn, inn1, innT, idx, idx1, rfl, k, _, k3, _⟩
    · exact ⟨_, k, hle.av _ (r.get_ok F L y)⟩
    · exact ⟨_, k, hcellA c y inn inn1 innT idx idx k k3 hy rfl⟩
  have hextA : Ext L LA := fun a b hab => by
    rw [hget]
    by_cases h1 : a = j
    · subst h1
      rw [q1] at hab; cases hab
      refine ⟨_, if_pos rfl, Nat.le_refl _, by simp [DBlk.clen, hAN, hAl], fun _ => by simp [DBlk.clen, hAN, hAl], .nest _ _ _ _ _ _ hAl.symm fun c i x hc => ?_⟩
      have hlt : c < colsA.length := by rw [hAl]; exact (List.getElem?_eq_some_iff.1 hc).1
      rcases hAc c _ (List.getElem?_eq_getElem hlt) with ⟨r, k0, k⟩ | ⟨inn, inn1, innT, idx, idx1, k0, k, _, k3, _⟩
      · rw [hc] at k; cases k
      · rw [hc] at k; cases k
        obtain ⟨n1, n2, n3⟩ := NRow.app_spec k3
        exact ⟨innT, _, by rw [List.getElem?_eq_getElem hlt, k0], by omega, fun k hk => by rw [n2 k hk]⟩
    · rw [if_neg h1]
      by_cases h2 : a = j1
      · subst h2
        rw [r1] at hab; cases hab
        exact ⟨_, if_pos rfl, by simp [DBlk.ver], by simp [DBlk.clen, r2, r4], fun e => by simp [DBlk.ver] at e, .gone _ _ _⟩
      · rw [if_neg h2]; exact ⟨b, hab, Nat.le_refl _, Nat.le_refl _, fun _ => rfl, .refl _⟩
  have hpoolA : ∀ (inn inn1 innT : NRow), inn.app inn1 = some innT → (∀ k, (inn.get k).len ≤ maxN) → (∀ k, (inn1.get k).len ≤ maxN) → ∀ k, (innT.get k).len ≤ maxN := fun inn inn1 innT ha h1 h2 k => by
    obtain ⟨n1, n2, n3⟩ := NRow.app_spec ha
    rcases Nat.lt_or_ge inn.n k with hk | hk
    · obtain ⟨m, rfl⟩ : ∃ m, k = inn.n + (m + 1) := ⟨k - inn.n - 1, by omega⟩
      rw [n3]; exact h2 _
    · rw [n2 k hk]; exact h1 k
  have hokG : ∀ (a : Nat) (b : DBlk), L[a]? = some b → b.Ok (F.wa g) LA := fun a b hab => by
    have := (hs.ok a b hab).ext hextA
    cases b with
    | gen cs fl2 w => exact ⟨hle.oks' hextA (hs.ok a _ hab).1, this.2⟩
    | row r w => exact this
    | nest cols w2 w => exact this
    | gone n w => trivial
  have hstA : St (F.wa g) LA H := by
    refine hs.re (fun a b d => if a = j ∧ 1 ≤ b ∧ pool (b - 1) ≤ d then (j1, b, d - pool (b - 1)) else (a, b, d)) (fun a b d B hB => ?_) (fun a b d B a' b' d' B' hB hB' e => ?_) ⟨g, rfl⟩ (fun a n w ha b d => ?_) fun a b hab => ?_
    · unfold blkAt at hB
      rw [hget] at hB
      by_cases h1 : a = j
      · subst h1
        simp only [if_true] at hB
        rcases E4_ hB with ⟨rfl, rfl, rfl, _⟩ | ⟨cs', fl', w, c', i', x', e1, rfl, e3, e4, rfl⟩
        · rw [if_neg (fun e => by omega)]
          refine ⟨?_, gj 0 0 (by omega)⟩
          rw [Am_ q1]
          simp only [DBlk.at', if_true, DBlk.blk, havA, hAl]
        · cases e1
          rcases hAc c' _ e3 with ⟨r, k0, k⟩ | ⟨inn, inn1, innT, idx, idx1, k0, k, k2, k3, _⟩
          · cases k0
          · cases k0
            obtain ⟨n1, n2, n3⟩ := NRow.app_spec k3
            have hp := hpool c' inn _ k
            by_cases hd : inn.n ≤ d
            · obtain ⟨m, rfl⟩ : ∃ m, d = inn.n + m := ⟨d - inn.n, by omega⟩
              rw [if_pos ⟨rfl, by omega, by simp only [Nat.add_sub_cancel]; omega⟩]
              simp only [Nat.add_sub_cancel, hp, Nat.add_sub_cancel_left]
              refine ⟨?_, by rw [← hp]; exact gn c' m⟩
              rw [Am_ r1, Ci_ k2 (by omega), show inn.n + m + 1 = inn.n + (m + 1) by omega, n3]
            · rw [if_neg (fun e => by simp only [Nat.add_sub_cancel] at e; omega)]
              refine ⟨?_, gj _ _ fun e => by simp only [Nat.add_sub_cancel] at e; omega⟩
              show blkAt F L a (c' + 1) d = _
              rw [Am_ q1, Ci_ k (by omega), n2 (d + 1) (by omega)]
      · simp only [if_neg h1] at hB
        by_cases h2 : a = j1
        · subst h2
          simp only [if_true, DBlk.at'] at hB
          cases hB
        · simp only [if_neg h2] at hB
          rw [if_neg (fun e => h1 e.1)]
          refine ⟨?_, ga _ _ _ h1 h2⟩
          split at hB
          · rename_i b0 hb0
            simp only
            rw [Am_ hb0]
            rw [hle.at_eq hb0 (hs.ok a b0 hb0)] at hB
            exact hB
          · cases hB
    · have nl : ∀ b d B, blkAt (F.wa g) LA j1 b d = some B → False := fun b d B h => by
        unfold blkAt at h
        rw [hget, if_neg (fun e => hne e.symm), if_pos rfl] at h
        cases h
      by_cases h1 : a = j ∧ 1 ≤ b ∧ pool (b - 1) ≤ d
      · rw [if_pos h1] at e
        by_cases h2 : a' = j ∧ 1 ≤ b' ∧ pool (b' - 1) ≤ d'
        · rw [if_pos h2] at e
          simp only [Prod.mk.injEq, true_and] at e
          obtain ⟨e1, e2⟩ := e
          subst e1
          exact ⟨h1.1.trans h2.1.symm, rfl, by omega⟩
        · rw [if_neg h2] at e
          simp only [Prod.mk.injEq] at e
          exact (nl b' d' B' (by rw [e.1]; exact hB')).elim
      · rw [if_neg h1] at e
        by_cases h2 : a' = j ∧ 1 ≤ b' ∧ pool (b' - 1) ≤ d'
        · rw [if_pos h2] at e
          simp only [Prod.mk.injEq] at e
          exact (nl b d B (by rw [← e.1]; exact hB)).elim
        · rw [if_neg h2] at e
          simp only [Prod.mk.injEq] at e
          exact e
    · rw [hget] at ha
      by_cases h1 : a = j
      · rw [if_pos h1] at ha; cases ha
      · rw [if_neg h1] at ha
        by_cases h2 : a = j1
        · subst h2
          show g a b d < H.length
          cases hl : (blkAt F L a b d).isSome with
          | true =>
            rw [gl b d hl]
            obtain ⟨B, hB⟩ := Option.isSome_iff_exists.1 hl
            exact (List.getElem?_eq_some_iff.1 (hs.blkp _ _ _ _ hB)).1
          | false => rw [gd b d hl]; exact hs.lt r1
        · rw [if_neg h2] at ha
          show g a b d < H.length
          rw [ga _ _ _ h1 h2]; exact hs.ltp a n w ha b d
    · rw [hget] at hab
      by_cases h1 : a = j
      · rw [if_pos h1] at hab; cases hab
        refine ⟨by rw [hAN]; exact o1, by rw [hAl]; exact o2, fun col hcol => ?_⟩
        obtain ⟨c, hc⟩ := List.getElem?_of_mem hcol
        rw [hAN]
        rcases hAc c col hc with ⟨r, rfl, k⟩ | ⟨inn, inn1, innT, idx, idx1, rfl, k, k2, k3, _⟩
        · exact o3 _ (List.mem_of_getElem? k)
        · obtain ⟨s1, s2, s3, s4⟩ := o3 _ (List.mem_of_getElem? k)
          obtain ⟨t1, t2, t3, t4⟩ := w3 _ (List.mem_of_getElem? k2)
          obtain ⟨n1, n2, n3⟩ := NRow.app_spec k3
          exact ⟨s1, s2, fun m hm => by have := s3 m hm; omega, hpoolA _ _ _ k3 s4 t4⟩
      · rw [if_neg h1] at hab
        by_cases h2 : a = j1
        · rw [if_pos h2] at hab; cases hab; trivial
        · rw [if_neg h2] at hab; exact hokG a b hab
  -- the cells appended
  have hav : Ac_ (F.wa g) j cols' = Ac_ F j cols ++ Ac_ F j1 cols1 := by
    refine Apy_ a1 (by omega) hN (fun c y z hc hy => ?_) fun c y z hc hy => ?_
    · obtain ⟨x, x1, k1, k2, k3⟩ := a3 c z hc
      refine ⟨x, k1, ?_⟩
      cases k3 with
      | pl r s t h =>
        have hr : r.len = colsN cols := hclen c _ k1
        have e1 := t.get_cells F y (by rw [(Row.app_spec h).2]; omega)
        rw [(Row.app_spec h).1, List.getElem?_append_left (by rw [Row.cells_len]; omega), r.get_cells F y (by omega)] at e1
        have e2 : (t.get y).av (F.wa g) = (t.get y).av F := hle.av _ (t.get_ok F L y)
        simp only [Col.cell]
        rw [e2]; exact (Option.some.inj e1).symm
      | sl inn inn1 innT idx idx1 h =>
        refine hcellA c y inn inn1 innT idx _ k1 h hy ?_
        obtain ⟨s1, _⟩ := o3 _ (List.mem_of_getElem? k1)
        have hlt : y < idx.length := by rw [s1]; exact hy
        rw [Ao_ _ _ (by simp; omega), Ao_ _ _ hlt, List.getElem_append_left hlt]
    · obtain ⟨x, x1, k1, k2, k3⟩ := a3 c z hc
      refine ⟨x1, k2, ?_⟩
      cases k3 with
      | pl r s t h =>
        have hr : r.len = colsN cols := hclen c _ k1
        have hs1 : s.len = colsN cols1 := hclen1 c _ k2
        have e1 := t.get_cells F (colsN cols + y) (by rw [(Row.app_spec h).2]; omega)
        rw [(Row.app_spec h).1, List.getElem?_append_right (by rw [Row.cells_len]; omega), Row.cells_len, hr, Nat.add_sub_cancel_left, s.get_cells F y (by omega)] at e1
        have e2 : (t.get (colsN cols + y)).av (F.wa g) = (t.get (colsN cols + y)).av F := hle.av _ (t.get_ok F L _)
        simp only [Col.cell]
        rw [e2]; exact (Option.some.inj e1).symm
      | sl inn inn1 innT idx idx1 h =>
        obtain ⟨n1, n2, n3⟩ := NRow.app_spec h
        obtain ⟨s1, _⟩ := o3 _ (List.mem_of_getElem? k1)
        obtain ⟨t1, _⟩ := w3 _ (List.mem_of_getElem? k2)
        have hlt : y < idx1.length := by rw [t1]; exact hy
        have hnth : nth (idx ++ idx1.map (D2_ inn.n)) (colsN cols + y) = D2_ inn.n (nth idx1 y) := by
          rw [Ao_ _ _ (by simp; omega), Ao_ _ _ hlt, List.getElem_append_right (by omega)]
          simp only [s1, Nat.add_sub_cancel_left, List.getElem_map]
        simp only [Col.cell, hnth]
        rw [Cp_, Cp_]
        cases nth idx1 y with
        | zero => rfl
        | succ m =>
          have hp := hpool c inn idx k1
          rw [show D2_ inn.n (m + 1) = (inn.n + m) + 1 from rfl]
          simp only
          rw [show inn.n + m + 1 = inn.n + (m + 1) by omega, n3, show (F.wa g).pl j (c + 1) (inn.n + m) = F.pl j1 (c + 1) m by rw [← hp]; exact gn c m]
  have hbA : LA[j]? = some (.nest colsA fl ver) := by rw [hget, if_pos rfl]
  have hL' : (L.set j1 (.gone (len1 * es1) (ver1 + 1))).set j (.nest cols' fl (ver + 1)) = LA.set j (.nest cols' fl (ver + 1)) := by rw [hLA, List.set_set]
  have hextB : Ext LA (LA.set j (.nest cols' fl (ver + 1))) := Ext.set hbA (by simp [DBlk.ver]) (by simp only [DBlk.clen, hAN, hAl, hN, a1]; exact Nat.mul_le_mul_right _ (by omega)) (fun e => by simp [DBlk.ver] at e) (.nest _ _ _ _ _ _ (by omega) fun c i x hc => by
    rcases hAc c _ hc with ⟨r, k0, k⟩ | ⟨inn, inn1, innT, idx, idx1, k0, k, k2, k3, k4⟩
    · cases k0
    · cases k0; exact ⟨_, _, k4, Nat.le_refl _, fun _ _ => rfl⟩)
  have hokB : DBlk.Ok (F.wa g) (LA.set j (.nest cols' fl (ver + 1))) (.nest cols' fl (ver + 1)) := by
    refine ⟨by rw [hN, q4, r4]; exact hf, by rw [a1]; exact o2, fun z hz => ?_⟩
    obtain ⟨c, hc⟩ := List.getElem?_of_mem hz
    have hzl := hzlen c z hc
    rw [hN]
    obtain ⟨x, x1, k1, k2, k3⟩ := a3 c z hc
    cases k3 with
    | pl r s t h => exact hzl
    | sl inn inn1 innT idx idx1 h =>
      obtain ⟨s1, s2, s3, s4⟩ := o3 _ (List.mem_of_getElem? k1)
      obtain ⟨t1, t2, t3, t4⟩ := w3 _ (List.mem_of_getElem? k2)
      obtain ⟨n1, n2, n3⟩ := NRow.app_spec h
      refine ⟨hzl, s2, fun m hm => ?_, hpoolA _ _ _ h s4 t4⟩
      rcases List.mem_append.1 hm with hm | hm
      · have := s3 m hm; omega
      · rw [List.mem_map] at hm
        obtain ⟨i, hi, rfl⟩ := hm
        have := t3 i hi
        cases i with
        | zero => simp [D2_]
        | succ i => simp only [D2_]; omega
  have hstB := hstA.set1 (j := j) (c0 := 0) (k0 := 0) (b' := .nest cols' fl (ver + 1)) (B0 := (DBlk.nest colsA fl ver).blk (F.wa g) j) (B' := ⟨Ac_ F j cols ++ Ac_ F j1 cols1, true, cols.length, fl⟩) (by rw [Am_ hbA]; rfl) (fun c1 k1 hn => by
    rw [Am_ hbA]
    cases c1 with
    | zero =>
      have hk1 : k1 ≠ 0 := fun e => hn ⟨rfl, e⟩
      simp only [DBlk.at', hk1, if_false]
    | succ c1 =>
      simp only [DBlk.at']
      cases hz : cols'[c1]? with
      | none =>
        have : colsA[c1]? = none := by rw [List.getElem?_eq_none_iff] at hz ⊢; omega
        rw [this]
      | some z =>
        have hlt : c1 < colsA.length := by have := (List.getElem?_eq_some_iff.1 hz).1; omega
        rcases hAc c1 _ (List.getElem?_eq_getElem hlt) with ⟨r, k0, k⟩ | ⟨inn, inn1, innT, idx, idx1, k0, k, k2, k3, k4⟩
        · rw [List.getElem?_eq_getElem hlt, k0]
          obtain ⟨x, x1, g1, g2, g3⟩ := a3 c1 z hz
          rw [k] at g1; cases g1
          cases g3; rfl
        · rw [List.getElem?_eq_getElem hlt, k0]
          rw [hz] at k4; cases k4
          rfl) (by simp only [DBlk.at', if_true, DBlk.blk, hav, a1]) hextB hokB (fun _ _ => by simp)
  rw [← hL'] at hstB hextB
  have habs : (F.wa g).abs j = F.abs j := hle.main j hjl
  obtain ⟨inf, z, i1, i2, i3, i4, i5, i6, _⟩ := (hT e _ hTe).el hsm
  obtain ⟨v1, v2⟩ := Acl_ hs r1
  have hbl : ((L.set j1 (.gone (len1 * es1) (ver1 + 1))).set j (.nest cols' fl (ver + 1)))[j]? = some (.nest cols' fl (ver + 1)) := by simp [hjl]
  have hcl : (DBlk.nest cols' fl (ver + 1)).clen = (len + len1) * es1 := by simp only [DBlk.clen, hN, a1, q2, q4, r4]
  refine ⟨F.wa g, _, hle, ?_, hstB, ⟨_, hbl, Nat.le_refl _, Nat.le_of_eq hcl.symm, fun _ => hcl.symm, hf⟩, hextA.trans hextB⟩
  unfold maxN at hf
  have hrd : AM.rdS H (.slc ⟨F.abs j1, 0, len1 * es1⟩ len1) = some (Ac_ F j1 cols1) := by
    simp only [AM.rdS, r5]
    rw [if_pos ⟨r6.symm, by rw [r6]; omega⟩]
    simp only [List.drop_zero]
    rw [← r6, List.take_length]
  simp only [DV.av, Dw_, elemA, hu, Option.bind_some, ne_eq, not_true_eq_false, if_false, lenS, hrd, appA, i1, i4]
  rw [if_pos ⟨by rw [r6, i2, hes], by rw [i2, hes]; exact q3, i3, by rw [i5, i2], v1⟩]
  simp only [q5]
  rw [if_pos ⟨q6.symm, trivial, by rw [i2, hes], by omega, fun e => v2 (hflc e)⟩]
  by_cases hz : len1 = 0
  · subst hz
    rw [if_pos rfl]
    have hn0 : Ac_ F j1 cols1 = [] := List.eq_nil_of_length_eq_zero (by rw [r6]; simp)
    have hb0 : H.set (F.abs j) ⟨Ac_ F j cols, true, es1, fl⟩ = H := by
      obtain ⟨h1, h2⟩ := List.getElem?_eq_some_iff.1 q5
      rw [← h2, List.set_getElem_self]
    show _ = some (AV.slc ⟨(F.wa g).abs j, 0, (len + 0) * es1⟩ (len + 0), H.set ((F.wa g).abs j) ⟨Ac_ F j cols ++ Ac_ F j1 cols1, true, cols.length, fl⟩)
    rw [habs, hn0, List.append_nil, Nat.add_zero, q2, hb0]
  · rw [if_neg hz, if_pos ⟨trivial, by rw [i2, hes]; exact q6.symm⟩]
    show _ = some (AV.slc ⟨(F.wa g).abs j, 0, (len + len1) * es1⟩ (len + len1), H.set ((F.wa g).abs j) ⟨Ac_ F j cols ++ Ac_ F j1 cols1, true, cols.length, fl⟩)
    rw [habs, q6, r6, ← Nat.add_mul, q2]
theorem Ad8_ (hT : TOk P T) (hs : St F L H) {t tx : TypeId} {s x y : DV} {L' : List DBlk} (hsv : s.Ok F L) (hx : x.Ok F L) (h : (L1_ T t tx s x L).run = some (y, L')) :
    ∃ F' H', FrLe F F' L ∧ Dw_ P H t tx (s.av F) (x.av F) = some (y.av F', H') ∧ St F' L' H' ∧ y.Ok F' L' ∧ Ext L L' := by
  unfold L1_ at h
  split at h
  case h_3 => cases h
  case h_2 =>
    rename_i e _ _ _ _ htt hTt
    have htt : t ≠ tx := fun e => by rw [e] at htt; simp at htt
    have hu : P.underlying t = some (.slice e) := (hT t _ hTt).und
    split at h
    case h_2 => cases h
    rename_i b hTx
    have hux : P.underlying tx = some .string := (hT tx _ hTx).und
    unfold Oo_ at h
    split at h
    case h_2 => cases h
    rename_i zo hTe
    obtain ⟨inf, z, i1, i2, i3, i4, i5, i6, _⟩ := (hT e _ hTe).el rfl
    simp only at i2 i5 i6
    have ihp : inf.hasPointers = false := by simpa using i6
    split at h
    case h_2 => cases h
    rename_i j ver len
    obtain ⟨b0, h1, h2, h3, h4, h5⟩ := hsv
    split at h
    case h_2 => cases h
    rename_i r v hg
    obtain ⟨g1, g2⟩ := Al_ hg
    rw [h1] at g1; cases g1
    have hal : len = r.len := h4 g2.symm
    obtain ⟨r', hr', h⟩ := Aa_ h
    obtain ⟨a1, a2⟩ := Row.app_spec hr'
    simp only [Tree.run] at h
    split at h
    case isFalse => cases h
    rename_i hf
    rw [Do_] at hf
    simp only [Option.some.injEq, Prod.mk.injEq] at h
    obtain ⟨rfl, rfl⟩ := h
    have he : Ext L (L.set j (.row r' (v + 1))) := Ext.set (b := .row r v) (b' := .row r' (v + 1)) h1 (by simp [DBlk.ver]) (by simp [DBlk.clen, a2]) fun hv => by simp [DBlk.ver] at hv
    have hst := hs.set h1 he (show DBlk.Ok F _ (.row r' (v + 1)) from hf)
    have hjl : j < L.length := (List.getElem?_eq_some_iff.1 h1).1
    refine ⟨F, _, FrLe.refl F L, ?_, hst, ⟨.row r' (v + 1), by simp [hjl], Nat.le_refl _, Nat.le_refl _, fun _ => rfl, hf⟩, he⟩
    unfold maxN at hf
    have hyl : (Row.u8 (numsS b)).len = b.size := Yd_ b
    have hbc : Bk_ b = (Row.u8 (numsS b)).cells := Yt_ b
    rw [DV.av, DV.av]
    simp only [Dw_, elemA, hu, hux, Option.bind_some, appA, i1, i4]
    rw [hbc, if_pos ⟨by rw [Row.cells_len, hyl, i2]; simp, by omega, i3, by rw [i5, i2], (Ce_ _ H).1⟩]
    simp only [hs.row h1]
    rw [if_pos ⟨by rw [Row.cells_len]; exact hal, trivial, by rw [i2], by omega, fun _ => (Ce_ _ H).2⟩]
    by_cases hz : b.size = 0
    · rw [if_pos hz]
      have hy0 : (Row.u8 (numsS b)).cells = [] := List.eq_nil_of_length_eq_zero (by rw [Row.cells_len, hyl, hz])
      have hb : H.set (F.abs j) ((DBlk.row r' (v + 1)).blk F j) = H := by
        have hk := hs.row h1
        obtain ⟨hk1, hk2⟩ := List.getElem?_eq_some_iff.1 hk
        have : (DBlk.row r' (v + 1)).blk F j = H[F.abs j] := by rw [hk2]; simp [DBlk.blk, a1, hy0]
        rw [this, List.set_getElem_self]
      rw [hb]
      simp only [DV.av, Option.some.injEq, Prod.mk.injEq, and_true]
      have : r'.len = len := by omega
      rw [this]
    · rw [if_neg hz, if_pos ⟨trivial, by rw [Row.cells_len, i2]; simp; exact hal⟩]
      have e3 : r.cells.length + (Row.u8 (numsS b)).cells.length = r'.len := by rw [Row.cells_len, Row.cells_len, a2]
      have e4 : len + b.size = r'.len := by omega
      rw [e3, e4]
      simp only [DV.av, Option.some.injEq, Prod.mk.injEq, true_and]
      congr 1
      simp [DBlk.blk, a1]
  rename_i e _ _ _ _ htt hTt
  have htt := Nat.eq_of_beq_eq_true htt
  subst htt
  have hu : P.underlying t = some (.slice e) := (hT t _ hTt).und
  split at h
  case h_3 => cases h
  case h_2 =>
    rename_i ei _ hTe
    split at h
    case h_2 => cases h
    exact Ahi_ hT hs hu hTe hsv hx h
  rename_i kd zo hTe
  obtain ⟨inf, z, i1, i2, i3, i4, i5, i6, _⟩ := (hT e _ hTe).el rfl
  simp only at i2 i5 i6
  have ihp : inf.hasPointers = false := by simpa using i6
  have base : ∀ (s0 x0 : AV) (n : Nat) (news : List AV), lenS x0 = some n → AM.rdS H x0 = some news → Dw_ P H t t s0 x0 = appA P H e s0 n news := by
    intro s0 x0 n news h1 h2
    simp [Dw_, elemA, hu, h1, h2]
  have cond : ∀ (yr : Row), yr.cells.length = yr.len * inf.size ∧ 0 < inf.size ∧ inf.bytes ≤ 1024 ∧ z.cells.size = inf.size ∧ yr.cells.all (A5_ H) = true := fun yr =>
    ⟨by rw [yr.cells_len, i2]; simp, by omega, i3, by rw [i5, i2], (Ce_ yr H).1⟩
  split at h
  · -- own, nil
    rename_i j ver len
    obtain ⟨b, h1, h2, h3, h4, h5⟩ := hsv
    split at h
    · rename_i r v hg
      obtain ⟨g1, g2⟩ := Al_ hg
      rw [h1] at g1; cases g1
      have hal : len = r.len := h4 g2.symm
      simp only [Tree.run, Option.some.injEq, Prod.mk.injEq] at h
      obtain ⟨rfl, rfl⟩ := h
      refine ⟨F, H, FrLe.refl F L, ?_, hs, ⟨_, h1, h2, h3, h4, h5⟩, Ext.refl _⟩
      rw [DV.av, DV.av, base _ _ 0 [] rfl rfl]
      unfold maxN at h5
      simp only [appA, i1, i4, Option.bind_some, hs.row h1]
      rw [if_pos ⟨by simp, by omega, i3, by rw [i5, i2], by simp⟩, if_pos ⟨by rw [Row.cells_len]; exact hal, trivial, by rw [i2], by omega, by simp⟩]
      simp
    · cases h
  · -- own
    rename_i _ j ver len hnn
    obtain ⟨b, h1, h2, h3, h4, h5⟩ := hsv
    split at h
    · rename_i r v yr hg hro
      obtain ⟨g1, g2⟩ := Al_ hg
      rw [h1] at g1; cases g1
      have hal : len = r.len := h4 g2.symm
      obtain ⟨r', hr', h⟩ := Aa_ h
      obtain ⟨a1, a2⟩ := Row.app_spec hr'
      simp only [Tree.run] at h
      split at h
      · rename_i hf
        rw [Do_] at hf
        simp only [Option.some.injEq, Prod.mk.injEq] at h
        obtain ⟨rfl, rfl⟩ := h
        obtain ⟨e1, e2⟩ := (C1_ hs hx hro).rdS
        have he : Ext L (L.set j (.row r' (v + 1))) := Ext.set (b := .row r v) (b' := .row r' (v + 1)) h1 (by simp [DBlk.ver]) (by simp [DBlk.clen, a2]) fun hv => by simp [DBlk.ver] at hv
        have hst := hs.set h1 he (show DBlk.Ok F _ (.row r' (v + 1)) from hf)
        have hjl : j < L.length := (List.getElem?_eq_some_iff.1 h1).1
        refine ⟨F, _, FrLe.refl F L, ?_, hst, ⟨.row r' (v + 1), by simp [hjl], Nat.le_refl _, Nat.le_refl _, fun _ => rfl, hf⟩, he⟩
        rw [DV.av, base _ _ _ _ e2 e1]
        unfold maxN at hf
        simp only [appA, i1, i4, Option.bind_some]
        rw [if_pos (cond yr)]
        simp only [hs.row h1]
        rw [if_pos ⟨by rw [Row.cells_len]; exact hal, trivial, by rw [i2], by omega, fun _ => (Ce_ yr H).2⟩]
        by_cases hz : yr.len = 0
        · rw [if_pos hz]
          have hy0 : yr.cells = [] := List.eq_nil_of_length_eq_zero (by rw [yr.cells_len, hz])
          have hb : H.set (F.abs j) ((DBlk.row r' (v + 1)).blk F j) = H := by
            have hk := hs.row h1
            obtain ⟨hk1, hk2⟩ := List.getElem?_eq_some_iff.1 hk
            have : (DBlk.row r' (v + 1)).blk F j = H[F.abs j] := by rw [hk2]; simp [DBlk.blk, a1, hy0]
            rw [this, List.set_getElem_self]
          rw [hb]
          simp only [DV.av, Option.some.injEq, Prod.mk.injEq, and_true]
          have : r'.len = len := by omega
          rw [this]
        · rw [if_neg hz, if_pos ⟨trivial, by rw [Row.cells_len, i2]; simp; exact hal⟩]
          have e3 : r.cells.length + yr.cells.length = r'.len := by rw [r.cells_len, yr.cells_len, a2]
          have e4 : len + yr.len = r'.len := by omega
          rw [e3, e4]
          simp only [DV.av, Option.some.injEq, Prod.mk.injEq, true_and]
          congr 1
          simp [DBlk.blk, a1]
      · cases h
    · cases h
  · -- nil
    rename_i x
    split at h
    · rename_i yr hro
      obtain ⟨e1, e2⟩ := (C1_ hs hx hro).rdS
      simp only [Tree.run] at h
      split at h
      · rename_i hf
        rw [Do_] at hf
        have hf' := hf
        unfold maxN at hf'
        split at h
        · rename_i hz
          have hz : yr.len = 0 := by simpa using hz
          split at h
          · cases h
          simp only [Tree.run, Option.some.injEq, Prod.mk.injEq] at h
          obtain ⟨rfl, rfl⟩ := h
          refine ⟨F, H, FrLe.refl F L, ?_, hs, trivial, Ext.refl _⟩
          rw [DV.av, base _ _ _ _ e2 e1]
          simp only [appA, i1, i4, Option.bind_some]
          rw [if_pos (cond yr)]
          simp [hz]
        · rename_i hz
          have hz : yr.len ≠ 0 := by simpa using hz
          simp only [Option.some.injEq, Prod.mk.injEq] at h
          obtain ⟨rfl, rfl⟩ := h
          have hst := hs.push (b := .row yr 0) (.inl ⟨_, _, rfl⟩) (show DBlk.Ok _ _ (.row yr 0) from hf)
          refine ⟨_, _, F.new_le H.length, ?_, hst, ⟨.row yr 0, by simp, Nat.le_refl _, Nat.le_refl _, fun _ => rfl, hf⟩, Ext.push _ _⟩
          rw [DV.av, base _ _ _ _ e2 e1]
          simp only [appA, i1, i4, Option.bind_some]
          rw [if_pos (cond yr)]
          simp only [hz, if_false]
          rw [if_pos hf']
          simp only [newA]
          rw [if_pos (fun _ => (Ce_ yr H).2)]
          simp [DV.av, F.new_abs, yr.cells_len, DBlk.blk, i2, ihp]
      · cases h
    · cases h
  · -- within an own block
    rename_i x j off ver alen len
    obtain ⟨b, h1, h2, h3, h4, h5⟩ := hsv
    split at h
    · rename_i r v yr hg hro
      obtain ⟨g1, g2⟩ := Al_ hg
      rw [h1] at g1; cases g1
      have hal : alen = r.len := h5.1 g2.symm
      have hmax : r.len ≤ maxN := hs.ok j _ h1
      rw [Tree.run] at h
      split at h
      case isFalse => cases h
      rename_i hbd
      have hbd := of_decide_eq_true hbd
      obtain ⟨r', hr', h⟩ := Aa_ h
      simp only [Tree.run, Option.some.injEq, Prod.mk.injEq] at h
      obtain ⟨rfl, rfl⟩ := h
      obtain ⟨e1, e2⟩ := (C1_ hs hx hro).rdS
      obtain ⟨o1, o2⟩ := Row.over_spec hr' hbd
      have he : Ext L (L.set j (.row r' v)) := Ext.set (b := .row r v) (b' := .row r' v) h1 (Nat.le_refl _) (by simp [DBlk.clen, o2]) fun _ => by simp [DBlk.clen, o2]
      have hst := hs.set h1 he (show DBlk.Ok F _ (.row r' v) from by show r'.len ≤ maxN; omega)
      have hjl : j < L.length := (List.getElem?_eq_some_iff.1 h1).1
      refine ⟨F, H.set (F.abs j) ((DBlk.row r' v).blk F j), FrLe.refl F L, ?_, hst, ⟨.row r' v, by simp [hjl], h2, by omega, by show alen ≤ r'.len; omega, fun _ => by show alen = r'.len; omega, by omega⟩, he⟩
      rw [DV.av, base _ _ _ _ e2 e1]
      unfold maxN at hmax
      simp only [appA, i1, i4, Option.bind_some]
      rw [if_pos (cond yr)]
      simp only [hs.row h1]
      rw [if_pos ⟨by rw [Row.cells_len]; exact hal, trivial, by rw [i2], by omega, fun _ => (Ce_ yr H).2⟩]
      by_cases hz : yr.len = 0
      · rw [if_pos hz]
        have hy0 : yr.cells = [] := List.eq_nil_of_length_eq_zero (by rw [yr.cells_len, hz])
        have hb : H.set (F.abs j) ((DBlk.row r' v).blk F j) = H := by
          have hk := hs.row h1
          obtain ⟨hk1, hk2⟩ := List.getElem?_eq_some_iff.1 hk
          have : (DBlk.row r' v).blk F j = H[F.abs j] := by
            rw [hk2]
            rw [hy0] at o1
            have o3 : r'.cells = r.cells := o1
            simp only [DBlk.blk, o3]
          rw [this, List.set_getElem_self]
        rw [hb]
        simp only [DV.av, Option.some.injEq, Prod.mk.injEq, and_true, hz, Nat.add_zero]
      · have hcl : r.cells.length = r.len := r.cells_len
        rw [if_neg hz, if_neg (by rw [hcl, i2]; omega), if_pos (by rw [hcl, i2, yr.cells_len]; omega)]
        simp only [DV.av, Option.some.injEq, Prod.mk.injEq, true_and, i2, Nat.mul_one]
        congr 1
        simp [DBlk.blk, o1]
    · cases h
  · cases h
theorem Hw_ (hs : St F L H) {b : DBlk} (hk : (∃ r v, b = .row r v) ∨ (∃ cs fl v, b = .gen cs fl v) ∨ (∃ cols fl v, b = .nest cols fl v ∧ ∀ (c : Nat) (inn : NRow) (idx : List Nat), cols[c]? = some (.sl inn idx) → inn.n = 0))
    (hok : b.Ok (F.new L.length H.length) (L ++ [b])) (hf : (b.blk (F.new L.length H.length) L.length).flat = true → (b.blk (F.new L.length H.length) L.length).cells.all AV.isFlat = true) {sz : Nat} {fl : Bool} {cs : List AV}
    (h1 : cs = (b.blk (F.new L.length H.length) L.length).cells) (h2 : sz = (b.blk (F.new L.length H.length) L.length).sz) (h3 : fl = (b.blk (F.new L.length H.length) L.length).flat) :
    newA H cs sz fl = some (⟨(F.new L.length H.length).abs L.length, 0, cs.length⟩, H ++ [b.blk (F.new L.length H.length) L.length]) ∧ St (F.new L.length H.length) (L ++ [b]) (H ++ [b.blk (F.new L.length H.length) L.length]) := by
  subst h1; subst h2; subst h3
  refine ⟨?_, hs.push hk hok⟩
  simp only [newA]
  rw [if_pos hf, F.new_abs]
  have : (⟨(b.blk (F.new L.length H.length) L.length).cells, true, (b.blk (F.new L.length H.length) L.length).sz, (b.blk (F.new L.length H.length) L.length).flat⟩ : Blk) = b.blk (F.new L.length H.length) L.length := by cases b <;> rfl
  rw [this]
theorem Tt_ (hT : TOk P T) (hs : St F L H) {e : TypeId} {v y : DV} {L' : List DBlk} (hv : v.Ok F L) (h : (Dl_ T e (some v) L).run = some (y, L')) :
    ∃ F' cs r H', FrLe F F' L ∧ (v.av F).cellsA = some cs ∧ cs.all (A5_ H) = true ∧ newA H cs 1 (flatT P e) = some (r, H') ∧ y.av F' = .ptr r ∧ St F' L' H' ∧ y.Ok F' L' ∧ Ext L L' := by
  unfold Dl_ at h
  split at h
  · rename_i i hTe
    simp only at h
    obtain ⟨cs, hcs, h⟩ := Aa_ h
    split at h
    · rename_i c0 c1 c2
      simp only [Tree.run, Option.some.injEq, Prod.mk.injEq] at h
      obtain ⟨rfl, rfl⟩ := h
      obtain ⟨k1, k2⟩ := Kr_ hs hcs hv
      have hfl : i.flat = true → allT DV.flat cs = true := fun e => by rw [e] at c2; exact c2
      have hle := F.new_le (L := L) H.length
      have hok : DBlk.Ok (F.new L.length H.length) (L ++ [.gen cs i.flat 0]) (.gen cs i.flat 0) := ⟨hle.oks' (Ext.push _ _) k2, fun e c hc => Ca_.1 (hfl e) c hc⟩
      have hav := hle.avs k2
      obtain ⟨n1, n2⟩ := Hw_ hs (.inr (.inl ⟨_, _, _, rfl⟩)) hok (fun e => Up_ (hfl e)) rfl rfl rfl
      refine ⟨_, _, ⟨(F.new L.length H.length).abs L.length, 0, cs.length⟩, _, hle, k1, J2_ hs k2 c1, ?_, ?_, n2, ⟨.gen cs i.flat 0, by simp, Nat.le_refl _, ?_, Nat.le_refl _, fun _ => rfl⟩, Ext.push _ _⟩
      · rw [(hT e i hTe).fl, ← hav]; simpa [DBlk.blk] using n1
      · simp [DV.av]
      · exact Nat.le_of_ble_eq_true c0
    · cases h
  · cases h
theorem Wv_ (hT : TOk P T) (hs : St F L H) {t : TypeId} {fs : List (Nat × TypeId)} (hfo : ∀ k q, fs[k]? = some q → B3_ P t k = some q) : ∀ (parts : List (Nat × DV)) (cells cs : List DV), (∀ q ∈ parts, q.2.Ok F L) → DVs.Ok F L cells →
    fillD L T fs cells parts = some cs → fillA H (Ev_ P t) (DVs.av F cells) (parts.map fun q => (q.1, q.2.av F)) = some (DVs.av F cs) ∧ DVs.Ok F L cs
  | [], cells, cs, _, hc, h => by simp only [fillD, Option.some.injEq] at h; subst h; exact ⟨rfl, hc⟩
  | (i, v) :: rest, cells, cs, hp, hc, h => by
    simp only [fillD] at h
    split at h
    · rename_i o ft vs hf hcv
      split at h
      · rename_i fi hTf
        split at h
        · rename_i c1 c2 c3
          have e1 := Nat.eq_of_beq_eq_true c1
          have e2 := Nat.le_of_ble_eq_true c2
          have hv := hp (i, v) (by simp)
          obtain ⟨k1, k2⟩ := Kr_ hs hcv hv
          have := Wv_ hT hs hfo rest (putD cells o vs) cs (fun q hq => hp q (by simp [hq])) (DVs.ok_iff.2 fun c hc' => by
            rcases Sb_ vs _ _ c hc' with h | h
            · exact DVs.ok_iff.1 hc c h
            · exact DVs.ok_iff.1 k2 c h) h
          refine ⟨?_, this.2⟩
          have hpl : Ev_ P t i = some (o, fi.size) := by simp [Ev_, hfo _ _ hf, (hT ft fi hTf).sz]
          simp only [List.map_cons, fillA, hpl, k1]
          rw [if_pos ⟨by simp [e1], by simpa using e2, J2_ hs k2 c3⟩, ← Y7_]
          exact this.1
        · cases h
      · cases h
    · cases h
theorem Agk_ (hT : TOk P T) (hs : St F L H) {t : TypeId} {parts : List (Nat × DV)} {y : DV} {L' : List DBlk} (hp : ∀ q ∈ parts, q.2.Ok F L) (h : (Gs_ T t parts L).run = some (y, L')) :
    F8_ P H t (parts.map fun q => (q.1, q.2.av F)) = some (y.av F) ∧ y.Ok F L ∧ L' = L := by
  unfold Gs_ at h
  split at h
  · rename_i fs sz fl zc sm hTt
    obtain ⟨cs, hcs, h⟩ := Aa_ h
    simp only [Tree.run, Option.some.injEq, Prod.mk.injEq] at h
    obtain ⟨rfl, rfl⟩ := h
    have hty := hT t _ hTt
    obtain ⟨⟨f, hf, hall⟩, hfo⟩ := hty.und
    obtain ⟨z1, z2⟩ := hty.zero _ rfl
    obtain ⟨k1, k2⟩ := Wv_ hT hs hfo parts zc cs hp (z2 F L) hcs
    refine ⟨?_, k2, rfl⟩
    simp only [F8_, hf]
    rw [if_pos hall, z1 F]
    simp [DV.av, AV.cellsA, k1]
  · cases h
theorem Ec_ : ∀ (parts : List (Nat × DV)) (k : Nat) (vs : List DV), E1_ k parts = some vs → parts = (List.range' k vs.length).zip vs ∧ vs.length = parts.length
  | [], k, vs, h => by simp only [E1_, Option.some.injEq] at h; subst h; exact ⟨rfl, rfl⟩
  | (i, v) :: rest, k, vs, h => by
    simp only [E1_] at h
    split at h
    · rename_i l c1 hr
      cases h
      have e := Nat.eq_of_beq_eq_true c1
      subst e
      obtain ⟨k1, k2⟩ := Ec_ rest (i + 1) l hr
      refine ⟨?_, by simp [k2]⟩
      rw [k1]
      simp [List.range'_succ]
    · cases h
theorem X9_ {k : TK} {vs : List DV} {r : Row} (h : mkRow k vs = some r) : r.cells = DVs.av F vs ∧ r.len = vs.length ∧ ∀ v ∈ vs, v.flat = true := by
  have a1 : ∀ (vs : List DV) (xs : List Nat), Eb_ vs = some xs → xs.map (AV.flt .f32) = DVs.av F vs ∧ xs.length = vs.length ∧ ∀ v ∈ vs, v.flat = true := by
    intro vs
    induction vs with
    | nil => intro xs h; simp only [Eb_, Option.some.injEq] at h; subst h; exact ⟨rfl, rfl, by simp⟩
    | cons v vs ih =>
      intro xs h
      cases v with
      | flt k x =>
        cases k with
        | f32 =>
          simp only [Eb_] at h
          split at h
          · rename_i ys hy
            cases h
            obtain ⟨k1, k2, k3⟩ := ih ys hy
            exact ⟨by simp [DVs.av, DV.av, k1], by simp [k2], by simpa [DV.flat] using k3⟩
          · cases h
        | f64 => simp [Eb_] at h
      | _ => simp [Eb_] at h
  have a2 : ∀ (vs : List DV) (xs : List Nat), D7_ vs = some xs → xs.map (AV.flt .f64) = DVs.av F vs ∧ xs.length = vs.length ∧ ∀ v ∈ vs, v.flat = true := by
    intro vs
    induction vs with
    | nil => intro xs h; simp only [D7_, Option.some.injEq] at h; subst h; exact ⟨rfl, rfl, by simp⟩
    | cons v vs ih =>
      intro xs h
      cases v with
      | flt k x =>
        cases k with
        | f64 =>
          simp only [D7_] at h
          split at h
          · rename_i ys hy
            cases h
            obtain ⟨k1, k2, k3⟩ := ih ys hy
            exact ⟨by simp [DVs.av, DV.av, k1], by simp [k2], by simpa [DV.flat] using k3⟩
          · cases h
        | f32 => simp [D7_] at h
      | _ => simp [D7_] at h
  have a3 : ∀ (vs : List DV) (xs : List Int), En_ vs = some xs → xs.map (AV.int .i64) = DVs.av F vs ∧ xs.length = vs.length ∧ ∀ v ∈ vs, v.flat = true := by
    intro vs
    induction vs with
    | nil => intro xs h; simp only [En_, Option.some.injEq] at h; subst h; exact ⟨rfl, rfl, by simp⟩
    | cons v vs ih =>
      intro xs h
      cases v with
      | int k x =>
        cases k with
        | i64 =>
          simp only [En_] at h
          split at h
          · rename_i ys hy
            cases h
            obtain ⟨k1, k2, k3⟩ := ih ys hy
            exact ⟨by simp [DVs.av, DV.av, k1], by simp [k2], by simpa [DV.flat] using k3⟩
          · cases h
        | _ => simp [En_] at h
      | _ => simp [En_] at h
  have a4 : ∀ (vs : List DV) (xs : List Int), allU8 vs = some xs → xs.map (AV.int .u8) = DVs.av F vs ∧ xs.length = vs.length ∧ ∀ v ∈ vs, v.flat = true := by
    intro vs
    induction vs with
    | nil => intro xs h; simp only [allU8, Option.some.injEq] at h; subst h; exact ⟨rfl, rfl, by simp⟩
    | cons v vs ih =>
      intro xs h
      cases v with
      | int k x =>
        cases k with
        | u8 =>
          simp only [allU8] at h
          split at h
          · rename_i ys hy
            cases h
            obtain ⟨k1, k2, k3⟩ := ih ys hy
            exact ⟨by simp [DVs.av, DV.av, k1], by simp [k2], by simpa [DV.flat] using k3⟩
          · cases h
        | _ => simp [allU8] at h
      | _ => simp [allU8] at h
  have a5 : ∀ (vs : List DV) (xs : List Bool), allB vs = some xs → xs.map AV.bool = DVs.av F vs ∧ xs.length = vs.length ∧ ∀ v ∈ vs, v.flat = true := by
    intro vs
    induction vs with
    | nil => intro xs h; simp only [allB, Option.some.injEq] at h; subst h; exact ⟨rfl, rfl, by simp⟩
    | cons v vs ih =>
      intro xs h
      cases v with
      | bool x =>
        simp only [allB] at h
        split at h
        · rename_i ys hy
          cases h
          obtain ⟨k1, k2, k3⟩ := ih ys hy
          exact ⟨by simp [DVs.av, DV.av, k1], by simp [k2], by simpa [DV.flat] using k3⟩
        · cases h
      | lit x =>
        simp only [allB] at h
        split at h
        · rename_i ys hy
          cases h
          obtain ⟨k1, k2, k3⟩ := ih ys hy
          exact ⟨by simp [DVs.av, DV.av, k1], by simp [k2], by simpa [DV.flat] using k3⟩
        · cases h
      | _ => simp [allB] at h
  unfold mkRow at h
  split at h
  · split at h
    · rename_i xs hx; cases h; exact a1 vs xs hx
    · cases h
  · split at h
    · rename_i xs hx; cases h; exact a2 vs xs hx
    · cases h
  · split at h
    · rename_i xs hx; cases h; exact a3 vs xs hx
    · cases h
  · split at h
    · rename_i xs hx; cases h; exact a4 vs xs hx
    · cases h
  · split at h
    · rename_i xs hx; cases h; exact a5 vs xs hx
    · cases h
  · cases h
theorem N8_ (H : Heap) : ∀ (vs done : List AV), (∀ v ∈ vs, v.isFlat = true) →
    fillA H (fun j => some (j * 1, 1)) (done ++ List.replicate vs.length .top) ((List.range' done.length vs.length).zip vs) = some (done ++ vs)
  | [], done, _ => by simp [fillA]
  | v :: vs, done, hv => by
    have h1 : v.cellsA = some [v] := by
      have := hv v (by simp)
      cases v <;> first | rfl | (simp [AV.isFlat] at this)
    have h2 : A5_ H v = true := by
      have := hv v (by simp)
      cases v <;> first | rfl | (simp [AV.isFlat] at this)
    have ih := N8_ H vs (done ++ [v]) fun w hw => hv w (by simp [hw])
    simp only [List.length_cons, List.range'_succ, List.zip_cons_cons, fillA, h1]
    rw [if_pos ⟨rfl, by simp, by simp [h2]⟩]
    have : putAt (done ++ List.replicate (vs.length + 1) .top) (done.length * 1) [v] = (done ++ [v]) ++ List.replicate vs.length .top := by
      simp [putAt, List.replicate_succ]
    rw [this]
    simpa using ih
theorem V7_ (n : Nat) (c : Col) (h : c.len = 0) : (c.rep n).len = n := by
  cases c with
  | pl r => cases r <;> simp [Col.rep, Col.len, Row.len]
  | sl inn idx => simp [Col.rep, Col.len]
theorem Ee_ {fl : Bool} {c : Col} (h : c.isE fl = true) : c.len = 0 ∧ ∀ inn idx, c = .sl inn idx → inn.n = 0 ∧ fl = false := by
  cases c with
  | pl r => exact ⟨Nat.eq_of_beq_eq_true h, fun _ _ e => by cases e⟩
  | sl inn idx =>
    simp only [Col.isE, Bool.and_eq_true, Bool.not_eq_true'] at h
    exact ⟨Nat.eq_of_beq_eq_true h.2.2, fun _ _ e => by cases e; exact ⟨Nat.eq_of_beq_eq_true h.2.1, h.1⟩⟩
theorem NRow.empty_len (inn : NRow) (h : inn.n = 0) (k : Nat) : (inn.get k).len = 0 := by
  cases k with
  | zero => exact inn.get0
  | succ k => exact inn.get_out (by omega)
theorem Xu_ (l vs : List AV) (h : vs.length = l.length) : putAt l 0 vs = vs := by
  rw [Vu_ l 0 vs (by omega)]
  unfold overL
  simp [h]
theorem Abd_ (F : Fr) : ∀ (vs : List DV) (xs : List ByteArray), Ix_ vs = some xs → xs.map AV.str = DVs.av F vs ∧ xs.length = vs.length ∧ ∀ v ∈ vs, v.flat = true := by
  intro vs
  induction vs with
  | nil => intro xs h; simp only [Ix_, Option.some.injEq] at h; subst h; exact ⟨rfl, rfl, by simp⟩
  | cons v vs ih =>
    intro xs h
    cases v with
    | str x =>
      simp only [Ix_] at h
      split at h
      · rename_i ys hy
        cases h
        obtain ⟨k1, k2, k3⟩ := ih ys hy
        exact ⟨by simp [DVs.av, DV.av, k1], by simp [k2], by simpa [DV.flat] using k3⟩
      · cases h
    | _ => simp [Ix_] at h
theorem Ak1_ (F : Fr) (j : Nat) (xs : List ByteArray) : Ac_ F j [.pl (.str xs)] = xs.map .str := by
  refine List.ext_getElem? fun i => ?_
  simp only [Ac_, colsN, Col.len, Row.len, List.length_singleton, Nat.mul_one, List.getElem?_map]
  rcases Nat.lt_or_ge i xs.length with h | h
  · rw [List.getElem?_range h, List.getElem?_eq_getElem h]
    simp [Nat.mod_one, Col.cell, Row.get, DV.av, nth, h]
  · rw [List.getElem?_eq_none (by simpa using h), List.getElem?_eq_none h]; rfl
theorem Z0_ (hT : TOk P T) (hs : St F L H) {t e : TypeId} {ei : TyI} {len : Nat} {parts : List (Nat × DV)} {vs : List DV} {y : DV} {L' : List DBlk} (hu : P.underlying t = some (.slice e)) (hTe : T e = some ei) (hl : parts.length = len) (hps : E1_ 0 parts = some vs) (hp : ∀ q ∈ parts, q.2.Ok F L)
    (h : (Nz_ T e ei vs L).run = some (y, L')) :
    ∃ F' H', FrLe F F' L ∧ ((Bq_ P H t len (parts.map fun q => (q.1, q.2.av F))).bind fun q => (newA H q.1 q.2.1 q.2.2).map fun r => ((.slc r.1 len : AV), r.2)) = some (y.av F', H') ∧ St F' L' H' ∧ y.Ok F' L' ∧ Ext L L' := by
  unfold Nz_ at h
  split at h
  case h_2 => cases h
  rename_i cols hck
  have hle := F.new_le (L := L) H.length
  have hE : (Nat.ble 1 ei.size && (Nat.ble ei.size 4096 && (ei.small && allT (Col.isE ei.flat) cols))) = true → 1 ≤ ei.size ∧ ei.size ≤ 4096 ∧ ei.small = true ∧ ∀ c ∈ cols, Col.isE ei.flat c = true := fun h => by
    simp only [Bool.and_eq_true] at h
    exact ⟨Nat.le_of_ble_eq_true h.1, Nat.le_of_ble_eq_true h.2.1, h.2.2.1, Ca_.1 h.2.2.2⟩
  have hN0 : ∀ n (cs : List Col), 0 < cs.length → (∀ c ∈ cs, c.len = n) → colsN cs = n := fun n cs h1 h2 => by
    cases cs with
    | nil => simp at h1
    | cons c l => exact h2 c (by simp)
  split at h
  · -- none
    rename_i c1 c2 
    have c1 := Nat.eq_of_beq_eq_true c1
    obtain ⟨e1, e0, e2, e3⟩ := hE c2
    simp only [Tree.run, Option.some.injEq, Prod.mk.injEq] at h
    obtain ⟨rfl, rfl⟩ := h
    obtain ⟨inf, z, i1, i2, i3, i4, i5, i6, _⟩ := (hT e _ hTe).el e2
    obtain ⟨p1, p2⟩ := Ec_ parts 0 [] hps
    have hp0 : parts = [] := by rw [p1]; rfl
    subst hp0
    have hlen : len = 0 := by simpa using hl.symm
    subst hlen
    have hcn : colsN cols = 0 := hN0 0 cols (by omega) fun c hc => (Ee_ (e3 c hc)).1
    have hav0 : Ac_ (F.new L.length H.length) L.length cols = [] := List.eq_nil_of_length_eq_zero (by simp [hcn])
    have hok : DBlk.Ok (F.new L.length H.length) (L ++ [.nest cols ei.flat 0]) (.nest cols ei.flat 0) := by
      refine ⟨by rw [hcn]; exact Nat.zero_le _, by omega, fun c hc => ?_⟩
      obtain ⟨g1, g2⟩ := Ee_ (e3 c hc)
      rw [hcn]
      cases c with
      | pl r => exact g1
      | sl inn idx =>
        obtain ⟨g3, g4⟩ := g2 inn idx rfl
        have : idx = [] := List.eq_nil_of_length_eq_zero g1
        subst this
        exact ⟨rfl, g4, by simp, fun k => by rw [inn.empty_len g3]; exact Nat.zero_le _⟩
    obtain ⟨n1, n2⟩ := Hw_ hs (b := .nest cols ei.flat 0) (.inr (.inr ⟨_, _, _, rfl, fun c inn idx hc => ((Ee_ (e3 _ (List.mem_of_getElem? hc))).2 inn idx rfl).1⟩)) hok (fun _ => by simp only [DBlk.blk, hav0]; rfl) (sz := inf.size) (fl := !inf.hasPointers) (cs := []) hav0.symm (by rw [i2]; exact c1.symm) i6
    refine ⟨_, _, hle, ?_, n2, ⟨.nest cols ei.flat 0, by simp, Nat.le_refl _, by simp, fun _ => by simp [DBlk.clen, hcn], by simp⟩, Ext.push _ _⟩
    simp only [Bq_, elemA, hu, Option.bind_some, i1, i4, List.map_nil, fillA]
    rw [if_pos ⟨by simp, by rw [i5, i2]⟩]
    simp only [Nat.zero_mul, List.replicate_zero, Option.map_some, Option.bind_some, n1]
    simp [DV.av]
  · -- one
    rename_i v c1 c2
    have c1 := Nat.eq_of_beq_eq_true c1
    obtain ⟨e1, e0, e2, e3⟩ := hE c2
    obtain ⟨cs, hcs, h⟩ := Aa_ h
    split at h
    case h_2 => cases h
    rename_i c3 c4
    have c3 := Nat.eq_of_beq_eq_true c3
    obtain ⟨L1, hL1, h⟩ := Aa_ h
    simp only [Tree.run, Option.some.injEq, Prod.mk.injEq] at h
    obtain ⟨rfl, rfl⟩ := h
    obtain ⟨inf, z, i1, i2, i3, i4, i5, i6, _⟩ := (hT e _ hTe).el e2
    obtain ⟨p1, p2⟩ := Ec_ parts 0 [v] hps
    have hp1 : parts = [(0, v)] := by rw [p1]; rfl
    subst hp1
    have hlen : len = 1 := by simpa using hl.symm
    subst hlen
    have hv : v.Ok F L := hp (0, v) (by simp)
    obtain ⟨k1, k2⟩ := Kr_ hs hcs hv
    have hml : (cols.map (Col.rep 1)).length = ei.size := by simp [c1]
    have hcn : colsN (cols.map (Col.rep 1)) = 1 := hN0 1 _ (by omega) fun c hc => by
      rw [List.mem_map] at hc
      obtain ⟨c0, h0, rfl⟩ := hc
      exact V7_ 1 c0 (Ee_ (e3 c0 h0)).1
    have hsl : ∀ (c : Nat) (inn : NRow) (idx : List Nat), (cols.map (Col.rep 1))[c]? = some (.sl inn idx) → inn.n = 0 ∧ idx = [0] ∧ ei.flat = false := fun c inn idx hc => by
      rw [List.getElem?_map] at hc
      obtain ⟨c0, h0, h1⟩ := Option.map_eq_some_iff.1 hc
      cases c0 with
      | pl r => cases r <;> simp [Col.rep] at h1
      | sl inn0 idx0 =>
        simp only [Col.rep, Col.sl.injEq] at h1
        obtain ⟨rfl, rfl⟩ := h1
        obtain ⟨g3, g4⟩ := (Ee_ (e3 _ (List.mem_of_getElem? h0))).2 inn0 idx0 rfl
        exact ⟨g3, rfl, g4⟩
    have hok : DBlk.Ok (F.new L.length H.length) (L ++ [.nest (cols.map (Col.rep 1)) ei.flat 0]) (.nest (cols.map (Col.rep 1)) ei.flat 0) := by
      refine ⟨by rw [hcn]; decide, by omega, fun c hc => ?_⟩
      rw [hcn]
      obtain ⟨i, hi⟩ := List.getElem?_of_mem hc
      have hlen : c.len = 1 := by
        rw [List.mem_map] at hc
        obtain ⟨c0, h0, rfl⟩ := hc
        exact V7_ 1 c0 (Ee_ (e3 c0 h0)).1
      cases c with
      | pl r => exact hlen
      | sl inn idx =>
        obtain ⟨g1, g2, g3⟩ := hsl i inn idx hi
        subst g2
        exact ⟨rfl, g3, by simp, fun k => by rw [inn.empty_len g1]; exact Nat.zero_le _⟩
    have hst := hs.push (b := .nest (cols.map (Col.rep 1)) ei.flat 0) (.inr (.inr ⟨_, _, _, rfl, fun c inn idx hc => (hsl c inn idx hc).1⟩)) hok
    have hext : Ext L (L ++ [.nest (cols.map (Col.rep 1)) ei.flat 0]) := Ext.push _ _
    obtain ⟨F', cols', g1, g2, g3, g4, g5, g6, g7, g8⟩ := Pa_ cs _ _ _ 0 (cols.map (Col.rep 1)) (fl := ei.flat) (ver := 0) hst (by simp) (by rw [hcn]; decide) (hle.oks' hext k2) hL1
    have hav := hle.avs k2
    have hnl : (Ac_ (F.new L.length H.length) L.length (cols.map (Col.rep 1))).length = ei.size := by rw [Dq_, hcn, hml, Nat.one_mul]
    rw [Nat.zero_mul, Nat.zero_add, Xu_ _ _ (by rw [hnl, DVs.av_len, c3]), hav, hml, F.new_abs] at g7
    have hset : (H ++ [(DBlk.nest (cols.map (Col.rep 1)) ei.flat 0).blk (F.new L.length H.length) L.length]).set H.length ⟨DVs.av F cs, true, ei.size, ei.flat⟩ = H ++ [⟨DVs.av F cs, true, ei.size, ei.flat⟩] := by simp
    rw [hset] at g7
    have habs : F'.abs L.length = H.length := by
      have := g1.main L.length (by simp)
      show F'.pl _ 0 0 = _
      rw [this]; exact F.new_abs _ _
    refine ⟨F', _, hle.trans hext g1, ?_, g7, ⟨_, g3, Nat.le_refl _, by simp [DBlk.clen, g4, g5, hcn, c1], fun _ => by simp [DBlk.clen, g4, g5, hcn, c1], by decide⟩, hext.trans g2⟩
    have hfA : fillA H (fun j => some (j * inf.size, inf.size)) (List.replicate (1 * inf.size) .top) [(0, v.av F)] = some (DVs.av F cs) := by
      simp only [fillA, k1]
      rw [if_pos ⟨by rw [DVs.av_len, c3, i2], by simp, J2_ hs k2 c4⟩]
      rw [Nat.zero_mul, Xu_ _ _ (by simp [c3, i2])]
    simp only [Bq_, elemA, hu, Option.bind_some, i1, i4, List.map_cons, List.map_nil]
    have hby : 1 * inf.size ≤ 16777216 := by omega
    rw [if_pos ⟨hby, by rw [i5, i2]⟩, hfA]
    simp only [Option.map_some, Option.bind_some, newA]
    rw [if_pos (fun e => by rw [hav] at g8; exact g8 (by rw [← i6]; exact e))]
    simp [DV.av, habs, i2, i6, c3]
  · -- texts
    rename_i vs _ _ _ c1 c2 _ _
    have c1 := Nat.eq_of_beq_eq_true c1
    obtain ⟨e1, e0, e2, e3⟩ := hE c2
    split at h
    case h_2 => cases h
    rename_i xs c3 c4 _
    have c3 := Nat.le_of_ble_eq_true c3
    simp only [Tree.run, Option.some.injEq, Prod.mk.injEq] at h
    obtain ⟨rfl, rfl⟩ := h
    obtain ⟨inf, z, i1, i2, i3, i4, i5, i6, _⟩ := (hT e _ hTe).el e2
    obtain ⟨p1, p2⟩ := Ec_ parts 0 vs hps
    obtain ⟨m1, m2, m3⟩ := Abd_ F vs xs c4
    have hlen : vs.length = len := by omega
    have hsz : ei.size = 1 := by simpa using c1.symm
    have hav0 : Ac_ (F.new L.length H.length) L.length [.pl (.str xs)] = xs.map .str := Ak1_ _ _ _
    have hok : DBlk.Ok (F.new L.length H.length) (L ++ [.nest [.pl (.str xs)] ei.flat 0]) (.nest [.pl (.str xs)] ei.flat 0) := by
      refine ⟨by show xs.length ≤ maxN; unfold maxN; omega, Nat.one_pos, fun c hc => ?_⟩
      rw [List.mem_singleton] at hc; subst hc; rfl
    obtain ⟨n1, n2⟩ := Hw_ hs (b := .nest [.pl (.str xs)] ei.flat 0) (.inr (.inr ⟨_, _, _, rfl, fun c inn idx hc => by cases c <;> simp at hc⟩)) hok (fun _ => by simp [DBlk.blk, hav0, AV.isFlat]) (sz := inf.size) (fl := !inf.hasPointers) (cs := xs.map .str) hav0.symm (by rw [i2, hsz]; rfl) i6
    refine ⟨_, _, hle, ?_, n2, ⟨.nest [.pl (.str xs)] ei.flat 0, by simp, Nat.le_refl _, by simp [DBlk.clen, colsN, Col.len, Row.len, m2, hsz], fun _ => by simp [DBlk.clen, colsN, Col.len, Row.len, m2, hsz], by unfold maxN; omega⟩, Ext.push _ _⟩
    have hf := N8_ H (DVs.av F vs) [] fun v hv => by
      rw [DVs.av_eq, List.mem_map] at hv
      obtain ⟨w, hw, rfl⟩ := hv
      exact Da_ F (m3 w hw)
    have hz : (parts.map fun q => (q.1, q.2.av F)) = (List.range' 0 vs.length).zip (DVs.av F vs) := by
      rw [p1, DVs.av_eq, List.zip_map_right]
      rfl
    simp only [List.nil_append, List.length_nil, DVs.av_len] at hf
    simp only [Bq_, elemA, hu, Option.bind_some, i1, i4]
    rw [if_pos ⟨by rw [i2, hsz]; omega, by rw [i5, i2]⟩, hz, i2, hsz, Nat.mul_one, ← hlen, hf]
    simp only [Option.map_some, Option.bind_some]
    rw [← m1, ← hsz, ← i2, n1]
    simp [DV.av, m2, i2, hsz]
  · cases h
theorem Agy_ (hT : TOk P T) (hs : St F L H) {t : TypeId} {len : Nat} {parts : List (Nat × DV)} {y : DV} {L' : List DBlk} (hp : ∀ q ∈ parts, q.2.Ok F L) (h : (Ky_ T t len parts L).run = some (y, L')) :
    ∃ F' H', FrLe F F' L ∧ ((Bq_ P H t len (parts.map fun q => (q.1, q.2.av F))).bind fun q => (newA H q.1 q.2.1 q.2.2).map fun r => ((.slc r.1 len : AV), r.2)) = some (y.av F', H') ∧ St F' L' H' ∧ y.Ok F' L' ∧ Ext L L' := by
  unfold Ky_ at h
  split at h
  case h_2 => cases h
  rename_i e _ _ _ _ hTt
  have hu : P.underlying t = some (.slice e) := (hT t _ hTt).und
  split at h
  case h_3 => cases h
  case h_2 =>
    rename_i ei _ hTe
    split at h
    case h_2 => cases h
    rename_i vs _ c1 hps
    exact Z0_ hT hs hu hTe (Nat.eq_of_beq_eq_true c1) hps hp h
  rename_i k zo hTe
  obtain ⟨inf, z, i1, i2, i3, i4, i5, i6, _⟩ := (hT e _ hTe).el rfl
  simp only at i2 i5 i6
  have ihp : inf.hasPointers = false := by simpa using i6
  split at h
  · rename_i vs c1 c2 hps
    have e1 := Nat.eq_of_beq_eq_true c1
    have e2 := Nat.le_of_ble_eq_true c2
    obtain ⟨r, hr, h⟩ := Aa_ h
    simp only [Tree.run, Option.some.injEq, Prod.mk.injEq] at h
    obtain ⟨rfl, rfl⟩ := h
    obtain ⟨p1, p2⟩ := Ec_ parts 0 vs hps
    obtain ⟨m1, m2, m3⟩ := X9_ (F := F) hr
    have hlen : vs.length = len := by omega
    have hok : DBlk.Ok (F.new L.length H.length) (L ++ [.row r 0]) (.row r 0) := by show r.len ≤ maxN; unfold maxN; omega
    obtain ⟨n1, n2⟩ := Hw_ hs (.inl ⟨_, _, rfl⟩) hok (fun _ => (Ce_ r H).2) (sz := 1) (fl := !inf.hasPointers) (cs := r.cells) rfl rfl (by simp [DBlk.blk, ihp])
    refine ⟨_, _, F.new_le H.length, ?_, n2, ⟨.row r 0, by simp, Nat.le_refl _, Nat.le_refl _, fun _ => rfl, hok⟩, Ext.push _ _⟩
    have hf := N8_ H (DVs.av F vs) [] fun v hv => by
      rw [DVs.av_eq, List.mem_map] at hv
      obtain ⟨w, hw, rfl⟩ := hv
      exact Da_ F (m3 w hw)
    have hz : (parts.map fun q => (q.1, q.2.av F)) = (List.range' 0 vs.length).zip (DVs.av F vs) := by
      rw [p1, DVs.av_eq, List.zip_map_right]
      rfl
    simp only [List.nil_append, List.length_nil, DVs.av_len] at hf
    simp only [Bq_, elemA, hu, Option.bind_some, i1, i4]
    rw [if_pos ⟨by rw [i2]; omega, by rw [i5, i2]⟩, hz, i2, Nat.mul_one, ← hlen, hf]
    simp only [Option.map_some, Option.bind_some]
    rw [← m1, n1]
    simp [DV.av, m2, r.cells_len]
  · cases h
theorem Uj_ {k : TK} {n : Nat} {r : Row} (h : Il_ k n = some r) : ∃ zd, zk k = some zd ∧ r.cells = List.replicate n (zd.av F) ∧ r.len = n := by
  unfold Il_ at h
  split at h <;> cases h <;> exact ⟨_, rfl, by simp [Row.cells, DV.av], by simp [Row.len]⟩
theorem Ahe_ (hT : TOk P T) (hs : St F L H) {t : TypeId} {x y : DV} {L' : List DBlk} (hx : x.Ok F L) (h : (Mk_ T t x L).run = some (y, L')) :
    ∃ H', Ap_ P H .clear [t] [x.av F] = some (y.av F, H') ∧ St F L' H' ∧ y.Ok F L' ∧ Ext L L' := by
  unfold Mk_ at h
  split at h
  case h_2 => cases h
  rename_i e _ _ _ _ hTt
  have hu : P.underlying t = some (.slice e) := (hT t _ hTt).und
  split at h
  case h_2 => cases h
  rename_i k zo hTe
  obtain ⟨inf, z, i1, i2, i3, i4, i5, i6, i7⟩ := (hT e _ hTe).el rfl
  simp only at i2 i5 i6
  have goal : ∀ (j off len v : Nat) (r yr r' : Row), L[j]? = some (.row r v) → Il_ k len = some yr → off + len ≤ r.len → r.over off yr = some r' → (y, L') = (.tup [], L.set j (.row r' v)) →
      ∃ H', Ap_ P H .clear [t] [.slc ⟨F.abs j, off, r.len⟩ len] = some (y.av F, H') ∧ St F L' H' ∧ y.Ok F L' ∧ Ext L L' := by
    intro j off len v r yr r' hj hy hb ho he
    simp only [Prod.mk.injEq] at he
    obtain ⟨rfl, rfl⟩ := he
    obtain ⟨zd, z1, z2, z3⟩ := Uj_ (F := F) hy
    obtain ⟨o1, o2⟩ := Row.over_spec ho (by rw [z3]; exact hb)
    have hok : r.len ≤ maxN := hs.ok j _ hj
    have hext : Ext L (L.set j (.row r' v)) := Ext.set (b := .row r v) (b' := .row r' v) hj (Nat.le_refl _) (by simp [DBlk.clen, o2]) fun _ => by simp [DBlk.clen, o2]
    have hst := hs.set hj hext (show DBlk.Ok F _ (.row r' v) from by show r'.len ≤ maxN; omega)
    by_cases hn : len = 0
    · subst hn
      have yr0 : yr.cells = [] := by rw [z2]; rfl
      rw [yr0] at o1
      have same : r'.cells = r.cells := by rw [o1]; rfl
      refine ⟨_, ?_, hst, trivial, hext⟩
      simp only [Ap_, F1_, elemA, hu, Option.bind_some, hs.row hj]
      rw [if_pos (by rw [Row.cells_len]), if_pos trivial]
      simp only [DV.av, DVs.av, Option.some.injEq, Prod.mk.injEq, true_and]
      have e1 : DBlk.blk F j (.row r' v) = DBlk.blk F j (.row r v) := by simp only [DBlk.blk, same]
      rw [e1]
      have hlt := (List.getElem?_eq_some_iff.1 (hs.row hj)).1
      refine List.ext_getElem? fun i => ?_
      rw [List.getElem?_set]
      by_cases e : F.abs j = i
      · subst e; rw [if_pos rfl, if_pos hlt]; exact hs.row hj
      · rw [if_neg e]
    · refine ⟨_, ?_, hst, trivial, hext⟩
      simp only [Ap_, F1_, elemA, hu, Option.bind_some, hs.row hj, i1, i4]
      rw [if_pos (by rw [Row.cells_len]), if_neg hn, if_pos ⟨by rw [i5], trivial⟩, i7 zd z1 F, ← z2]
      simp only [stN, hs.row hj]
      rw [if_pos ⟨trivial, by rw [Row.cells_len], by rw [yr.cells_len, r.cells_len, z3]; exact hb, (Ce_ yr H).1, fun _ => (Ce_ yr H).2⟩]
      simp [DV.av, DVs.av, DBlk.blk, o1]
  split at h
  · simp only [Tree.run, Option.some.injEq, Prod.mk.injEq] at h
    obtain ⟨rfl, rfl⟩ := h
    refine ⟨H, ?_, hs, trivial, Ext.refl _⟩
    simp [Ap_, F1_, elemA, hu, DV.av, DVs.av]
  · rename_i j ver len
    obtain ⟨b, h1, h2, h3, h4, h5⟩ := hx
    split at h
    · rename_i r v yr hg hy
      obtain ⟨g1, g2⟩ := Al_ hg
      rw [h1] at g1; cases g1
      have hal : len = r.len := h4 g2.symm
      obtain ⟨r', hr', h⟩ := Aa_ h
      simp only [Tree.run, Option.some.injEq] at h
      have := goal j 0 len v r yr r' h1 hy (by omega) hr' h.symm
      rw [DV.av, hal]
      rw [hal] at this
      exact this
    · cases h
  · rename_i j off ver alen len
    obtain ⟨b, h1, h2, h3, h4, h5⟩ := hx
    split at h
    · rename_i r v yr hg hy
      obtain ⟨g1, g2⟩ := Al_ hg
      rw [h1] at g1; cases g1
      rw [Tree.run] at h
      split at h
      case isFalse => cases h
      rename_i hb
      obtain ⟨r', hr', h⟩ := Aa_ h
      simp only [Tree.run, Option.some.injEq] at h
      have := goal j off len v r yr r' h1 hy (of_decide_eq_true hb) hr' h.symm
      have hal : alen = r.len := h5.1 g2.symm
      rw [DV.av, hal]
      exact this
    · cases h
  · cases h
theorem Row.fst_spec (r : Row) {k : Nat} (h : k ≤ r.len) : (r.fst k).cells = r.cells.take k ∧ (r.fst k).len = k := by
  unfold Row.fst
  refine ⟨?_, ?_⟩
  · rw [Row.sub_cells]; simp [AM.sub]
  · rw [Row.sub_len _ _ _ (Bb_.2 ⟨by omega, by omega, by omega⟩)]; omega
theorem Ait_ (hT : TOk P T) (hs : St F L H) {t tx : TypeId} {d x y : DV} {L' : List DBlk} (hd : d.Ok F L) (hx : x.Ok F L) (h : (copyD T t d x L).run = some (y, L')) :
    ∃ H', Ap_ P H .copy [t, tx] [d.av F, x.av F] = some (y.av F, H') ∧ St F L' H' ∧ y.Ok F L' ∧ Ext L L' := by
  unfold copyD at h
  split at h
  case h_2 => cases h
  rename_i e _ _ _ _ hTt
  have hu : P.underlying t = some (.slice e) := (hT t _ hTt).und
  split at h
  case h_2 => cases h
  rename_i k zo hTe
  obtain ⟨inf, z, i1, i2, i3, i4, i5, i6, i7⟩ := (hT e _ hTe).el rfl
  simp only at i2 i5 i6
  have hsz : szA P e = some 1 := by unfold szA; rw [i1, Option.map_some, i2]
  have goal : ∀ (j off len v : Nat) (r yr r' : Row), L[j]? = some (.row r v) → rowOf L x = some yr → off + len ≤ r.len → r.over off (yr.fst (min yr.len len)) = some r' → (y, L') = (.int .i64 ((min yr.len len : Nat) : Int), L.set j (.row r' v)) →
      ∃ H', Ap_ P H .copy [t, tx] [.slc ⟨F.abs j, off, r.len⟩ len, x.av F] = some (y.av F, H') ∧ St F L' H' ∧ y.Ok F L' ∧ Ext L L' := by
    intro j off len v r yr r' hj hy hb ho he
    simp only [Prod.mk.injEq] at he
    obtain ⟨rfl, rfl⟩ := he
    obtain ⟨rd1, rd2⟩ := (C1_ hs hx hy).rdS
    obtain ⟨K, hK⟩ : ∃ K, K = min yr.len len := ⟨_, rfl⟩
    rw [← hK] at ho ⊢
    obtain ⟨y1, y2⟩ := yr.fst_spec (k := K) (by omega)
    obtain ⟨o1, o2⟩ := Row.over_spec ho (by rw [y2]; omega)
    have hok : r.len ≤ maxN := hs.ok j _ hj
    have hext : Ext L (L.set j (.row r' v)) := Ext.set (b := .row r v) (b' := .row r' v) hj (Nat.le_refl _) (by simp [DBlk.clen, o2]) fun _ => by simp [DBlk.clen, o2]
    have hst := hs.set hj hext (show DBlk.Ok F _ (.row r' v) from by show r'.len ≤ maxN; omega)
    by_cases hn : K = 0
    · have yr0 : (yr.fst K).cells = [] := by rw [y1, hn, List.take_zero]
      rw [yr0] at o1
      have same : r'.cells = r.cells := by rw [o1]; simp [putAt]
      refine ⟨_, ?_, hst, trivial, hext⟩
      simp only [Ap_, copyA, elemA, hu, Option.bind_some, hs.row hj, rd1, rd2]
      rw [if_pos (by rw [Row.cells_len]), if_pos ⟨hsz, trivial, by rw [Row.cells_len]⟩, ← hK, if_pos hn]
      simp only [DV.av, Option.some.injEq, Prod.mk.injEq, hn]
      refine ⟨rfl, ?_⟩
      have e1 : DBlk.blk F j (.row r' v) = DBlk.blk F j (.row r v) := by simp only [DBlk.blk, same]
      rw [e1]
      have hlt := (List.getElem?_eq_some_iff.1 (hs.row hj)).1
      refine List.ext_getElem? fun i => ?_
      rw [List.getElem?_set]
      by_cases e : F.abs j = i
      · subst e; rw [if_pos rfl, if_pos hlt]; exact hs.row hj
      · rw [if_neg e]
    · refine ⟨_, ?_, hst, trivial, hext⟩
      simp only [Ap_, copyA, elemA, hu, Option.bind_some, hs.row hj, rd1, rd2]
      rw [if_pos (by rw [Row.cells_len]), if_pos ⟨hsz, trivial, by rw [Row.cells_len]⟩, ← hK, if_neg hn, ← y1]
      simp only [stN, hs.row hj]
      rw [if_pos ⟨trivial, by rw [Row.cells_len], by rw [(yr.fst K).cells_len, r.cells_len, y2]; omega, (Ce_ (yr.fst K) H).1, fun _ => (Ce_ (yr.fst K) H).2⟩]
      simp [DV.av, DBlk.blk, o1]
  split at h
  · rename_i j ver len
    obtain ⟨b, h1, h2, h3, h4, h5⟩ := hd
    split at h
    · rename_i r v yr hg hy
      obtain ⟨g1, g2⟩ := Al_ hg
      rw [h1] at g1; cases g1
      have hal : len = r.len := h4 g2.symm
      obtain ⟨r', hr', h⟩ := Aa_ h
      simp only [Tree.run, Option.some.injEq] at h
      have := goal j 0 len v r yr r' h1 hy (by omega) hr' h.symm
      rw [DV.av, hal]
      rw [hal] at this
      exact this
    · cases h
  · rename_i j off ver alen len
    obtain ⟨b, h1, h2, h3, h4, h5⟩ := hd
    split at h
    · rename_i r v yr hg hy
      obtain ⟨g1, g2⟩ := Al_ hg
      rw [h1] at g1; cases g1
      rw [Tree.run] at h
      split at h
      case isFalse => cases h
      rename_i hb
      obtain ⟨r', hr', h⟩ := Aa_ h
      simp only [Tree.run, Option.some.injEq] at h
      have := goal j off len v r yr r' h1 hy (of_decide_eq_true hb) hr' h.symm
      have hal : alen = r.len := h5.1 g2.symm
      rw [DV.av, hal]
      exact this
    · cases h
  · cases h
theorem Lk_ {n : Nat} {c c' : Col} {z : DV} (h : c.repZ n z = some c') : c'.len = n ∧ (∀ (F : Fr) (j k y : Nat), y < n → (c'.cell j k y).av F = z.av F) ∧ (∀ inn idx, c' = .sl inn idx → (∃ idx0, c = .sl inn idx0) ∧ idx = List.replicate n 0) ∧ z.flat = true := by
  unfold Col.repZ at h
  split at h <;> cases h
  all_goals refine ⟨by simp [Col.len, Row.len], fun F j k y hy => ?_, fun inn idx e => ?_, rfl⟩
  all_goals first
    | (cases e; done)
    | (cases e; exact ⟨⟨_, rfl⟩, rfl⟩)
    | (simp only [Col.cell, Row.get, DV.av]; rw [Ao_ _ _ (by simpa using hy)]; simp)
    | (simp only [Col.cell]; rw [Ao_ _ _ (by simpa using hy)]; simp [DV.av])
theorem U2_ {n : Nat} : ∀ {cols : List Col} {zs : List DV} {cols' : List Col}, Jw_ n cols zs = some cols' → cols'.length = cols.length ∧ zs.length = cols.length ∧
    ∀ (k : Nat) (c' : Col), cols'[k]? = some c' → ∃ c z, cols[k]? = some c ∧ zs[k]? = some z ∧ c.repZ n z = some c'
  | [], [], cols', h => by simp only [Jw_, Option.some.injEq] at h; subst h; exact ⟨rfl, rfl, by simp⟩
  | [], _ :: _, _, h => by cases h
  | _ :: _, [], _, h => by cases h
  | c :: cs, z :: zs, cols', h => by
    simp only [Jw_] at h
    split at h
    · rename_i a b h1 h2
      cases h
      obtain ⟨k1, k2, k3⟩ := U2_ h2
      refine ⟨by simp [k1], by simp [k2], fun k c' hk => ?_⟩
      cases k with
      | zero => simp at hk; subst hk; exact ⟨c, z, rfl, rfl, h1⟩
      | succ k => obtain ⟨c0, z0, g1, g2, g3⟩ := k3 k c' (by simpa using hk); exact ⟨c0, z0, by simpa using g1, by simpa using g2, g3⟩
    · cases h
theorem Afz_ {z : Value} {zd : DV} {zc : List DV} {F : Fr} (h : absV z = zd.av F) (hc : A2_ zd = some zc) (hfl : ∀ c ∈ zc, c.flat = true) : z.cells.size = zc.length ∧ ∀ (k : Nat) (d : DV), zc[k]? = some d → absC (z.cells.getD k undef) = d.av F := by
  have one : ∀ d : DV, d.flat = true → absV z = d.av F → zc = [d] → z.cells.size = zc.length ∧ ∀ (k : Nat) (q : DV), zc[k]? = some q → absC (z.cells.getD k undef) = q.av F := fun d hd h1 h2 => by
    subst h2
    have hz : z.cells = #[z] := by
      cases z <;> first | rfl | (simp only [absV] at h1; cases d <;> simp [DV.flat, DV.av] at hd h1)
    have hv : absV z = absC z := by
      cases z <;> first | rfl | (simp only [absV] at h1; cases d <;> simp [DV.flat, DV.av] at hd h1)
    rw [hz]
    refine ⟨rfl, fun k q hk => ?_⟩
    cases k with
    | zero => simp at hk; subst hk; show absC z = _; rw [← hv]; exact h1
    | succ k => simp at hk
  cases zd with
  | agg cs =>
    simp only [A2_, Option.some.injEq] at hc
    subst hc
    simp only [DV.av] at h
    cases z with
    | agg vs =>
      simp only [absV, AV.agg.injEq] at h
      have hl : vs.size = cs.length := by have := congrArg List.length h; simpa using this
      refine ⟨hl, fun k d hk => ?_⟩
      have hk' := (List.getElem?_eq_some_iff.1 hk).1
      have h1 : (DVs.av F cs)[k]? = some (d.av F) := by rw [DVs.av_eq, List.getElem?_map, hk]; rfl
      rw [← h, List.getElem?_map, Array.getElem?_toList, Array.getElem?_eq_getElem (by omega)] at h1
      simp only [Option.map_some, Option.some.injEq] at h1
      show absC (vs.getD k undef) = _
      rw [Array.getD_eq_getD_getElem?, Array.getElem?_eq_getElem (by omega)]
      exact h1
    | _ => simp only [absV, absC] at h; first | (cases h; done) | (split at h <;> cases h)
  | top | undef | tup | rns | nsb => cases hc
  | _ => simp only [A2_, Option.some.injEq] at hc; exact one _ (hfl _ (by rw [← hc]; simp)) h hc.symm
theorem Abg_ (hT : TOk P T) (hs : St F L H) {t e : TypeId} {ei : TyI} {k1 k2 : IntKind} {n : Int} {y : DV} {L' : List DBlk} (hu : P.underlying t = some (.slice e)) (hTe : T e = some ei) (h0 : 0 ≤ n) (hn : n.toNat ≤ maxN)
    (h : (No_ T e ei n.toNat L).run = some (y, L')) :
    ∃ F' H', FrLe F F' L ∧ makeA P H t (.int k1 n) (.int k2 n) = some (y.av F', H') ∧ St F' L' H' ∧ y.Ok F' L' ∧ Ext L L' := by
  unfold No_ at h
  split at h
  case h_2 => cases h
  rename_i cols zd hck hzd
  split at h
  case h_2 => cases h
  rename_i zc hzc
  split at h
  case h_2 => cases h
  rename_i cols' c1 c2 hrep
  have c1 := Nat.eq_of_beq_eq_true c1
  simp only [Bool.and_eq_true] at c2
  obtain ⟨e1, e2, e3⟩ := c2
  have e1 := Nat.le_of_ble_eq_true e1
  have e3 := Ca_.1 e3
  simp only [Tree.run, Option.some.injEq, Prod.mk.injEq] at h
  obtain ⟨rfl, rfl⟩ := h
  obtain ⟨inf, z, i1, i2, i3, i4, i5, i6, _⟩ := (hT e _ hTe).el e2
  obtain ⟨r1, r2, r3⟩ := U2_ hrep
  have hle := F.new_le (L := L) H.length
  have hlen : ∀ c ∈ cols', c.len = n.toNat := fun c hc => by
    obtain ⟨k, hk⟩ := List.getElem?_of_mem hc
    obtain ⟨_, _, _, _, g⟩ := r3 k c hk
    exact (Lk_ g).1
  have hcn : colsN cols' = n.toNat := by
    cases hq : cols' with
    | nil => rw [hq] at r1; simp at r1; omega
    | cons c l => exact hlen c (by rw [hq]; simp)
  have hsl : ∀ (c : Nat) (inn : NRow) (idx : List Nat), cols'[c]? = some (.sl inn idx) → inn.n = 0 ∧ idx = List.replicate n.toNat 0 ∧ ei.flat = false := fun c inn idx hc => by
    obtain ⟨c0, z0, g1, g2, g3⟩ := r3 c _ hc
    obtain ⟨_, _, g4, _⟩ := Lk_ g3
    obtain ⟨⟨idx0, g5⟩, g6⟩ := g4 inn idx rfl
    obtain ⟨g7, g8⟩ := (Ee_ (e3 _ (List.mem_of_getElem? g1))).2 inn idx0 g5
    exact ⟨g7, g6, g8⟩
  have hok : DBlk.Ok (F.new L.length H.length) (L ++ [.nest cols' ei.flat 0]) (.nest cols' ei.flat 0) := by
    refine ⟨by rw [hcn]; exact hn, by omega, fun c hc => ?_⟩
    rw [hcn]
    have hl := hlen c hc
    cases c with
    | pl r => exact hl
    | sl inn idx =>
      obtain ⟨k, hk⟩ := List.getElem?_of_mem hc
      obtain ⟨g1, g2, g3⟩ := hsl k inn idx hk
      exact ⟨hl, g3, fun x hx => by rw [g2] at hx; rw [(List.mem_replicate.1 hx).2]; exact Nat.zero_le _, fun k => by rw [inn.empty_len g1]; exact Nat.zero_le _⟩
  have hzf : ∀ c ∈ zc, c.flat = true := fun c hc => by
    obtain ⟨k, hk⟩ := List.getElem?_of_mem hc
    have hkl : k < cols'.length := by have := (List.getElem?_eq_some_iff.1 hk).1; omega
    obtain ⟨c0, z0, g1, g2, g3⟩ := r3 k _ (List.getElem?_eq_getElem hkl)
    rw [hk] at g2; cases g2
    exact (Lk_ g3).2.2.2
  have hz1 := ((hT e _ hTe).zero zd hzd).1 (F.new L.length H.length)
  have hzv : absV z = zd.av (F.new L.length H.length) := by
    simp only [zeroA, i1, Option.bind_some, i4, Option.map_some, Option.some.injEq] at hz1
    exact hz1
  obtain ⟨z1, z2⟩ := Afz_ hzv hzc hzf
  have hcs : zeroCells z n.toNat = Ac_ (F.new L.length H.length) L.length cols' := by
    unfold zeroCells Ac_
    rw [hcn, z1, r2, ← r1]
    refine List.map_congr_left fun p hp => ?_
    rw [List.mem_range] at hp
    have hm : p % cols'.length < cols'.length := Nat.mod_lt _ (by omega)
    have hd : p / cols'.length < n.toNat := Nat.div_lt_of_lt_mul (by rw [Nat.mul_comm]; exact hp)
    rw [List.getElem?_eq_getElem hm]
    obtain ⟨c0, z0, g1, g2, g3⟩ := r3 _ _ (List.getElem?_eq_getElem hm)
    rw [z2 _ _ g2]
    exact ((Lk_ g3).2.1 _ _ _ _ hd).symm
  obtain ⟨n1, n2⟩ := Hw_ hs (b := .nest cols' ei.flat 0) (.inr (.inr ⟨_, _, _, rfl, fun c inn idx hc => (hsl c inn idx hc).1⟩)) hok (fun hf => by
      simp only [DBlk.blk] at hf ⊢
      rw [← hcs]
      unfold zeroCells
      rw [List.all_map, List.all_eq_true]
      intro p hp
      rw [List.mem_range] at hp
      have hm : p % z.cells.size < zc.length := by rw [z1]; exact Nat.mod_lt _ (by omega)
      show (absC _).isFlat = true
      rw [z2 _ _ (List.getElem?_eq_getElem hm)]
      exact Da_ _ (hzf _ (List.getElem_mem hm)))
    (sz := inf.size) (fl := !inf.hasPointers) (cs := zeroCells z n.toNat) hcs (by show inf.size = cols'.length; omega) i6
  refine ⟨_, _, hle, ?_, n2, ⟨.nest cols' ei.flat 0, by simp, Nat.le_refl _, by simp [DBlk.clen, hcn, r1, c1], fun _ => by simp [DBlk.clen, hcn, r1, c1], hn⟩, Ext.push _ _⟩
  unfold maxN at hn
  simp only [makeA, elemA, hu, Option.bind_some, i1, i4]
  rw [if_pos ⟨h0, trivial, by omega, i3, by omega, by omega⟩, n1]
  have hzl : (zeroCells z n.toNat).length = n.toNat * ei.size := by simp [zeroCells, i5, i2]
  simp [DV.av, hzl]
theorem Ajj_ (hT : TOk P T) (hs : St F L H) {t : TypeId} {l c y : DV} {L' : List DBlk} (h : (makeD T t l c L).run = some (y, L')) :
    ∃ F' H', FrLe F F' L ∧ makeA P H t (l.av F) (c.av F) = some (y.av F', H') ∧ St F' L' H' ∧ y.Ok F' L' ∧ Ext L L' := by
  unfold makeD at h
  split at h
  · rename_i e _ _ _ _ k1 n k2 m hTt
    have hu : P.underlying t = some (.slice e) := (hT t _ hTt).und
    split at h
    · rename_i k zo hTe
      obtain ⟨inf, z, i1, i2, i3, i4, i5, i6, i7⟩ := (hT e _ hTe).el rfl
      simp only at i2 i5 i6
      have ihp : inf.hasPointers = false := by simpa using i6
      split at h
      · rename_i r hr
        simp only [Tree.run] at h
        split at h
        · rename_i hmn
          subst hmn
          split at h
          · rename_i hb
            rw [Bf_] at hb
            simp only [Option.some.injEq, Prod.mk.injEq] at h
            obtain ⟨rfl, rfl⟩ := h
            obtain ⟨zd, z1, z2, z3⟩ := Uj_ (F := F) hr
            have hok : DBlk.Ok (F.new L.length H.length) (L ++ [.row r 0]) (.row r 0) := by show r.len ≤ maxN; omega
            obtain ⟨n1, n2⟩ := Hw_ hs (.inl ⟨_, _, rfl⟩) hok (fun _ => (Ce_ r H).2) (sz := 1) (fl := !inf.hasPointers) (cs := r.cells) rfl rfl (by simp [DBlk.blk, ihp])
            refine ⟨_, _, F.new_le H.length, ?_, n2, ⟨.row r 0, by simp, Nat.le_refl _, Nat.le_of_eq z3.symm, fun _ => z3.symm, by omega⟩, Ext.push _ _⟩
            have hb2 := hb.2
            unfold maxN at hb2
            simp only [DV.av, makeA, elemA, hu, Option.bind_some, i1, i4]
            rw [if_pos ⟨hb.1, trivial, by omega, i3, by omega, by omega⟩, Aj9_ _ _ i5, i7 zd z1 F, ← z2, i2, n1]
            simp [r.cells_len, z3]
          · cases h
        · cases h
      · cases h
    · rename_i ei _ hTe
      split at h
      · simp only [Tree.run] at h
        split at h
        · rename_i hmn
          subst hmn
          split at h
          · rename_i hb
            rw [Bf_] at hb
            exact Abg_ hT hs hu hTe hb.1 (by omega) h
          · cases h
        · cases h
      · cases h
    · cases h
  · cases h
theorem Ank_ {P : Program} {H : Heap} {t : TypeId} (k : IntKind) (a b : Int) : binA P H .and t (.int k a) (.int k b) = some (.int k (iand k a b)) := by
  simp only [binA, Go.binOp, ne_eq, not_true_eq_false, if_false, Op.intBits]; rfl
theorem Anh_ {P : Program} {H : Heap} {t : TypeId} (k : IntKind) (a b : Int) : binA P H .or t (.int k a) (.int k b) = some (.int k (ior k a b)) := by
  simp only [binA, Go.binOp, ne_eq, not_true_eq_false, if_false, Op.intBits]; rfl
theorem We_ {P : Program} {H : Heap} {t : TypeId} (k k' : IntKind) (a b : Int) (hb : 0 ≤ b) : binA P H .shl t (.int k a) (.int k' b) = some (.int k (ishl k a b)) := by
  have : ¬ b < 0 := by omega
  simp only [binA, Go.binOp, Op.shift, this, if_false]; rfl
theorem Wk_ {P : Program} {H : Heap} {t : TypeId} (k k' : IntKind) (a b : Int) (hb : 0 ≤ b) : binA P H .shr t (.int k a) (.int k' b) = some (.int k (ishr k a b)) := by
  have : ¬ b < 0 := by omega
  simp only [binA, Go.binOp, Op.shift, this, if_false]; rfl
theorem Al5_ (hT : TOk P T) (hs : St F L H) {op : BinOp} {t : TypeId} {x y z : DV} {L' : List DBlk} (hx : x.Ok F L) (h : (binD T op t x y L).run = some (z, L')) :
    binA P H op t (x.av F) (y.av F) = some (z.av F) ∧ z.Ok F L ∧ L' = L := by
  have ints : ∀ (k : IntKind) (a b : Int), (ibinD op k a b L).run = some (z, L') → binA P H op t (.int k a) (.int k b) = some (z.av F) ∧ z.Ok F L ∧ L' = L := by
    intro k a b h
    unfold ibinD at h
    cases op <;> simp only [Tree.run, shD, Option.some.injEq, Prod.mk.injEq, reduceCtorEq] at h
    case shl =>
      split at h
      · rename_i hb
        simp only [Option.some.injEq, Prod.mk.injEq] at h
        obtain ⟨rfl, rfl⟩ := h
        exact ⟨We_ k k a b (by simpa using hb), trivial, rfl⟩
      · cases h
    case shr =>
      split at h
      · rename_i hb
        simp only [Option.some.injEq, Prod.mk.injEq] at h
        obtain ⟨rfl, rfl⟩ := h
        exact ⟨Wk_ k k a b (by simpa using hb), trivial, rfl⟩
      · cases h
    case quo =>
      split at h
      · rename_i hb
        simp only [Option.some.injEq, Prod.mk.injEq] at h
        obtain ⟨rfl, rfl⟩ := h
        exact ⟨W4_ k k a b rfl (by simpa using hb), trivial, rfl⟩
      · cases h
    case rem =>
      split at h
      · rename_i hb
        simp only [Option.some.injEq, Prod.mk.injEq] at h
        obtain ⟨rfl, rfl⟩ := h
        exact ⟨Ul_ k k a b rfl (by simpa using hb), trivial, rfl⟩
      · cases h
    case and => obtain ⟨rfl, rfl⟩ := h; exact ⟨Ank_ k a b, trivial, rfl⟩
    case or => obtain ⟨rfl, rfl⟩ := h; exact ⟨Anh_ k a b, trivial, rfl⟩
    all_goals (obtain ⟨rfl, rfl⟩ := h; refine ⟨?_, trivial, rfl⟩; simp [binA, DV.av])
  have flts : ∀ (k : FloatKind) (a b : Nat), (fbinD op k a b L).run = some (z, L') → binA P H op t (.flt k a) (.flt k b) = some (z.av F) ∧ z.Ok F L ∧ L' = L := by
    intro k a b h
    unfold fbinD at h
    cases op <;> simp only [Tree.run, Option.some.injEq, Prod.mk.injEq, reduceCtorEq] at h
    all_goals (obtain ⟨rfl, rfl⟩ := h; refine ⟨?_, trivial, rfl⟩; simp [binA, DV.av, fbin])
  have bools : ∀ (a b : Bool), (match T t with | some ⟨.bool, _, _, _, _⟩ => bbinD op a b L | _ => .fail).run = some (z, L') → binA P H op t (.bool a) (.bool b) = some (z.av F) ∧ z.Ok F L ∧ L' = L := by
    intro a b h
    split at h
    · rename_i hTt
      have hu : P.underlying t = some .bool := (hT t _ hTt).und
      unfold bbinD at h
      cases op <;> simp only [Tree.run, Option.some.injEq, Prod.mk.injEq, reduceCtorEq] at h
      all_goals (obtain ⟨rfl, rfl⟩ := h; refine ⟨?_, trivial, rfl⟩; simp [binA, DV.av, hu])
    · cases h
  have strs : ∀ (a b : ByteArray), (sbinD op a b L).run = some (z, L') → binA P H op t (.str a) (.str b) = some (z.av F) ∧ z.Ok F L ∧ L' = L := by
    intro a b h
    unfold sbinD at h
    cases op <;> simp only [Tree.run, Option.some.injEq, Prod.mk.injEq, reduceCtorEq] at h
    case add =>
      split at h
      · rename_i hf
        rw [Do_] at hf
        unfold maxN at hf
        simp only [Option.some.injEq, Prod.mk.injEq] at h
        obtain ⟨rfl, rfl⟩ := h
        refine ⟨?_, trivial, rfl⟩
        have hm : IntKind.i64.max = 9223372036854775807 := by decide
        have : ¬ ((a.size + b.size : Nat) : Int) > IntKind.i64.max := by rw [hm]; omega
        simp only [binA, Op.stringOp, this, if_false]
        rfl
      · cases h
    all_goals (obtain ⟨rfl, rfl⟩ := h; refine ⟨?_, trivial, rfl⟩; simp only [binA, Op.stringOp]; rfl)
  have shs : ∀ (k k' : IntKind) (a b : Int), (shD op k a b L).run = some (z, L') → binA P H op t (.int k a) (.int k' b) = some (z.av F) ∧ z.Ok F L ∧ L' = L := by
    intro k k' a b h
    unfold shD at h
    cases op <;> simp only [Tree.run, Option.some.injEq, Prod.mk.injEq, reduceCtorEq] at h
    case shl =>
      split at h
      · rename_i hb
        simp only [Option.some.injEq, Prod.mk.injEq] at h
        obtain ⟨rfl, rfl⟩ := h
        exact ⟨We_ k k' a b (by simpa using hb), trivial, rfl⟩
      · cases h
    case shr =>
      split at h
      · rename_i hb
        simp only [Option.some.injEq, Prod.mk.injEq] at h
        obtain ⟨rfl, rfl⟩ := h
        exact ⟨Wk_ k k' a b (by simpa using hb), trivial, rfl⟩
      · cases h
  unfold binD at h
  split at h
  · exact ints _ _ _ h
  · exact ints _ _ _ h
  · exact ints _ _ _ h
  · exact ints _ _ _ h
  · exact shs _ _ _ _ h
  · exact shs _ _ _ _ h
  · exact flts _ _ _ h
  · exact flts _ _ _ h
  · exact strs _ _ h
  · exact bools _ _ h
  · exact bools _ _ h
  · exact bools _ _ h
  · exact bools _ _ h
  · split at h
    · rename_i hTt
      have hu : P.underlying t = some (.slice _) := (hT t _ hTt).und
      unfold nilD at h
      cases op <;> simp only [Tree.run, Option.some.injEq, Prod.mk.injEq, reduceCtorEq] at h
      all_goals (obtain ⟨rfl, rfl⟩ := h; refine ⟨?_, trivial, rfl⟩; simp [binA, DV.av, hu])
    · cases h
  · rename_i j ver len
    split at h
    · rename_i hTt hg
      have hu : P.underlying t = some (.slice _) := (hT t _ hTt).und
      obtain ⟨b, h1, h2, h3, h4, h5⟩ := hx
      have := (Al_ hg).1
      rw [h1] at this; cases this
      have hl := hs.live (off := 0) hg h4
      unfold nilD at h
      cases op <;> simp only [Tree.run, Option.some.injEq, Prod.mk.injEq, reduceCtorEq] at h
      all_goals (obtain ⟨rfl, rfl⟩ := h; refine ⟨?_, trivial, rfl⟩; simp [binA, DV.av, hu, hl])
    · cases h
  · rename_i s r
    split at h
    · rename_i hTt
      have hu : P.underlying t = some (.slice _) := (hT t _ hTt).und
      simp only [Tree.run] at h
      split at h
      · rename_i hpos
        have hpos : 0 < r.len := by simpa using hpos
        rcases hx H hs.ag with ⟨e, h0⟩ | ⟨p, B, e, k1, k2, _⟩
        · omega
        · have hl : AM.live H p = true := Av_.2 ⟨B, k1, k2⟩
          unfold nilD at h
          cases op <;> simp only [Tree.run, Option.some.injEq, Prod.mk.injEq, reduceCtorEq] at h
          all_goals (obtain ⟨rfl, rfl⟩ := h; refine ⟨?_, trivial, rfl⟩; simp [binA, DV.av, e, hu, hl])
      · cases h
    · cases h
  · rename_i j ver es len
    split at h
    · rename_i q hTt hg
      obtain ⟨cols, fl⟩ := q
      have hu : P.underlying t = some (.slice _) := (hT t _ hTt).und
      obtain ⟨b, h1, h2, h3, h4, h5⟩ := hx
      obtain ⟨q1, q2, q3, q4, q5, q6⟩ := Bz_ hs hg h1 h4
      have hl : AM.live H ⟨F.abs j, 0, len * es⟩ = true := Av_.2 ⟨_, q5, q6.symm⟩
      unfold nilD at h
      cases op <;> simp only [Tree.run, Option.some.injEq, Prod.mk.injEq, reduceCtorEq] at h
      all_goals (obtain ⟨rfl, rfl⟩ := h; refine ⟨?_, trivial, rfl⟩; simp [binA, DV.av, hu, hl])
    · cases h
  · rename_i j c k len
    split at h
    · rename_i q hTt hi
      obtain ⟨inn, idx⟩ := q
      have hu : P.underlying t = some (.slice _) := (hT t _ hTt).und
      obtain ⟨g1, g2, g3, g4⟩ := Cw_ hs hi hx
      unfold nilK at h
      cases k with
      | zero =>
        cases op <;> simp only [Tree.run, Option.some.injEq, Prod.mk.injEq, reduceCtorEq] at h
        all_goals (obtain ⟨rfl, rfl⟩ := h; refine ⟨?_, trivial, rfl⟩; simp [binA, DV.av, hu])
      | succ m =>
        have hl : AM.live H ⟨F.pl j (c + 1) m, 0, len⟩ = true := Av_.2 ⟨_, g4 m rfl, by simp only [Row.cells_len]; exact g2⟩
        cases op <;> simp only [Tree.run, Option.some.injEq, Prod.mk.injEq, reduceCtorEq] at h
        all_goals (obtain ⟨rfl, rfl⟩ := h; refine ⟨?_, trivial, rfl⟩; simp [binA, DV.av, hu, hl])
    · cases h
  · cases h
theorem Ahw_ {op : UnOp} {x z : DV} {L' : List DBlk} (h : (unD op x L).run = some (z, L')) : unA op (x.av F) = some (z.av F) ∧ z.Ok F L ∧ L' = L := by
  unfold unD at h
  split at h <;> simp only [Tree.run, Option.some.injEq, Prod.mk.injEq, reduceCtorEq] at h
  all_goals (obtain ⟨rfl, rfl⟩ := h; refine ⟨?_, trivial, rfl⟩; first | rfl | simp [unA, DV.av])
end
end Go.Proofs.Ytmgpbchacndndaa.AM
