import Derived.Test.YtmgpbchacndndaaA6
set_option linter.unusedSimpArgs false
set_option linter.unusedVariables false
namespace Go.Proofs.Ytmgpbchacndndaa.AM
section
variable {P : Program} {H H' : Heap} {μ : Mem} {w : World}
structure SrcOk (P : Program) (w : World) (tx e : TypeId) (size n : Nat) (vs : List Value) (xv : Value) : Prop where
  ty : P.underlying tx = some (.slice e) ∨ P.underlying tx = some .string
  len : ∀ w', (Builtin.lenOf xv).run P w' = .ok n w'
  first : ∀ w' : World, (∀ a, w'.cell? a = w.cell? a) → (Builtin.firstCells size n xv).run P w' = .ok vs.toArray w'
  cnt : vs.length = n * size
theorem Tg_ (t tx ty e : TypeId) (i : TypeInfo) (ht : P.underlying t = some (.slice e)) (hi : P.info? e = some i)
    (s : Option Addr) (n c : Nat) (hn : n ≤ c) (x : Value) {vs : List Value} (hx : SrcOk P w tx e i.size 0 vs x) :
    (Builtin.append_ #[t, tx] ty #[.slice s n c, x]).run P w = .ok (.slice s n c) w := by
  obtain ⟨hu, h1, h2, h3⟩ := hx
  have hf := h2 w fun _ => rfl
  have h0 : vs = [] := List.eq_nil_of_length_eq_zero (by simpa using h3)
  subst h0
  rcases hu with hu | hu <;> cases s <;> simp [Builtin.append_, run_underlying ht, run_underlying hu, sizeOf, typeInfo, hi, h1, hf, hn, storeCells]
theorem Aip_ (t tx ty e : TypeId) (i : TypeInfo) (z : Value) (ht : P.underlying t = some (.slice e)) (hi : P.info? e = some i) (hz : i.zero = some z)
    (n : Nat) (news : List Value) {x : Value} (hx : SrcOk P w tx e i.size n news x) (h0 : 0 < n) (h63 : (n : Int) ≤ 9223372036854775807) (h48 : n * i.bytes ≤ 281474976710656) :
    (Builtin.append_ #[t, tx] ty #[.slice none 0 0, x]).run P w =
      .ok (.slice (some ⟨w.heap.size, 0, none⟩) n (grownCap w n 0 e)) (w.drew.alloc (.cells (news.toArray ++ Builtin.zeroCells z.cells (grownCap w n 0 e - n)) e)) := by
  have hn : n ≠ 0 := by omega
  have h63' : ¬ (9223372036854775807 < (n : Int)) := by omega
  have h48' : ¬ (281474976710656 < Builtin.nextslicecap n 0 * i.bytes) := by rw [nextslicecap_zero h0]; omega
  obtain ⟨hu, h1, h2, h3⟩ := hx
  have hf := h2 w.drew fun _ => rfl
  rcases hu with hu | hu <;> simp [Builtin.append_, run_underlying ht, run_underlying hu, sizeOf, typeInfo, zeroValue, hi, hz, h1, hn, h63', h48', Question.forced, run_firstCells_none, hf, newRow, grownCap]
theorem App_ (t tx ty e : TypeId) (i : TypeInfo) (z : Value) (ht : P.underlying t = some (.slice e)) (hi : P.info? e = some i) (hz : i.zero = some z)
    (b : Addr) (sLen sCap : Nat) (olds : List Value) (hlo : olds.length = sLen * i.size) (holds : ∀ j v, olds[j]? = some v → w.cell? (b.add j) = some v)
    (n : Nat) (news : List Value) {x : Value} (hx : SrcOk P w tx e i.size n news x)
    (hg : sCap < sLen + n) (h63 : ((sLen + n : Nat) : Int) ≤ 9223372036854775807) (hfit : Builtin.nextslicecap (sLen + n) sCap * i.bytes ≤ 281474976710656) :
    (Builtin.append_ #[t, tx] ty #[.slice (some b) sLen sCap, x]).run P w =
      .ok (.slice (some ⟨w.heap.size, 0, none⟩) (sLen + n) (grownCap w (sLen + n) sCap e))
        (w.drew.alloc (.cells (olds.toArray ++ news.toArray ++ Builtin.zeroCells z.cells (grownCap w (sLen + n) sCap e - (sLen + n))) e)) := by
  have hn : ¬ (sLen + n ≤ sCap) := by omega
  have h63' : ¬ (9223372036854775807 < ((sLen : Int) + (n : Int))) := by omega
  have h48' : ¬ (281474976710656 < Builtin.nextslicecap (sLen + n) sCap * i.bytes) := by omega
  obtain ⟨hu, h1, h2, h3⟩ := hx
  have hf := h2 w.drew fun _ => rfl
  have hfo := run_firstCells_some (P := P) w.drew i.size sLen b sLen sCap olds hlo (by simpa using holds)
  rcases hu with hu | hu <;> simp [Builtin.append_, run_underlying ht, run_underlying hu, sizeOf, typeInfo, zeroValue, hi, hz, h1, hn, h63', h48', Question.forced, hf, hfo, newRow, grownCap] <;> (congr 2; apply Array.ext'; simp [List.append_assoc])
theorem V0_ (t tx ty e e' : TypeId) (i : TypeInfo) (ht : P.underlying t = some (.slice e)) (hi : P.info? e = some i)
    (g o sLen sCap : Nat) (cur : Array Value) {fr : Nat × Nat} (hg : w.heap[g]? = some (.cells cur e' fr)) (hfr : Fz fr cur.size)
    (m : Nat) (news : List Value) {x : Value} (hx : SrcOk P w tx e i.size m news x) (h1 : ∀ u ∈ news, u.oneCell' = true)
    (hroom : sLen + m ≤ sCap) (hfit : o + sLen * i.size + news.length ≤ cur.size) :
    (Builtin.append_ #[t, tx] ty #[.slice (some ⟨g, o, none⟩) sLen sCap, x]).run P w =
      .ok (.slice (some ⟨g, o, none⟩) (sLen + m) sCap) (w.setRow g (cur.toList.take (o + sLen * i.size) ++ news ++ cur.toList.drop (o + sLen * i.size + news.length)).toArray) := by
  have hst := Kd_ P g (o + sLen * i.size) e' fr news 0 cur w hg hfr (by simpa using hfit) h1
  simp only [Nat.add_zero] at hst
  obtain ⟨hu, hl, h2, h3⟩ := hx
  have hf := h2 w fun _ => rfl
  rcases hu with hu | hu <;> simp [Builtin.append_, run_underlying ht, run_underlying hu, sizeOf, typeInfo, hi, hl, hroom, hf, Id_, hst]
theorem VRs.append {cs cs' : List AV} {vs vs' : List Value} (h : VRs H μ cs vs.toArray) (h' : VRs H μ cs' vs'.toArray) : VRs H μ (cs ++ cs') (vs ++ vs').toArray := by
  obtain ⟨h1, h2⟩ := h
  obtain ⟨h3, h4⟩ := h'
  simp only [List.size_toArray] at h1 h3
  refine ⟨by simp [h1, h3], fun i c v hc hv => ?_⟩
  simp only [List.getElem?_toArray] at hv
  by_cases hi : i < cs.length
  · rw [List.getElem?_append_left hi] at hc
    rw [List.getElem?_append_left (by omega)] at hv
    exact h2 i c v hc (by simpa using hv)
  · rw [List.getElem?_append_right (by omega)] at hc
    rw [List.getElem?_append_right (by omega)] at hv
    exact h4 _ c v hc (by rw [h1]; simpa using hv)
theorem Q4_ (w : World) (o : Obj) : (w.drew.alloc o).heap = w.heap.push o := rfl
theorem Sk_ (hr : HR H μ w) {x : AV} {n : Nat} {news : List AV} {xv : Value} (hx : VR H μ x xv) (hlen : lenS x = some n) (hrd : rdS H x = some news) (hn : 0 < news.length) :
    ∃ a c, ∃ vs : List Value, xv = .slice (some a) n c ∧ vs.length = news.length ∧ (∀ (j : Nat) (v : Value), vs[j]? = some v → w.cell? (a.add j) = some v) ∧ VRs H μ news vs.toArray := by
  unfold rdS at hrd
  split at hrd
  · cases hrd; simp at hn
  · rename_i r m
    cases hlen
    split at hrd
    · rename_i B hB
      split at hrd
      · rename_i hk
        cases hrd
        obtain ⟨k1, k2⟩ := hx.slc_inv hB hk.1
        rcases k2 with ⟨c, rfl, k3, k4⟩ | ⟨rfl, _, _⟩
        · obtain ⟨vs, h1, h2, h3⟩ := hr.row hB r.off (n * B.sz) hk.2
          refine ⟨_, c, vs, rfl, by rw [h1]; simp; omega, h2, by rw [List.size_toArray, h1]; simp; omega, fun i c' v hc hv => h3 i c' v hc (by simpa using hv)⟩
        · simp at hn
      · cases hrd
    · cases hrd
  · cases hrd
theorem Rv_ {x : AV} {n : Nat} {news : List AV} {xv : Value} (hx : VR H μ x xv) (hlen : lenS x = some n) (hrd : rdS H x = some news) : ∃ b c', xv = .slice b n c' := by
  unfold rdS at hrd
  split at hrd
  · cases hlen; obtain rfl := hx.nilslc_inv; exact ⟨_, _, rfl⟩
  · cases hlen
    split at hrd
    · rename_i B hB
      split at hrd
      · rename_i hk
        obtain ⟨a, c, rfl⟩ := (hx.slc_inv hB hk.1).slice
        exact ⟨_, _, rfl⟩
      · cases hrd
    · cases hrd
  · cases hrd
theorem Z8_ (hr : HR H μ w) {t e : TypeId} {i : TypeInfo} (ht : P.underlying t = some (.slice e)) {x : AV} {n : Nat} {news : List AV} {xv : Value} (hx : VR H μ x xv)
    (hlen : lenS x = some n) (hrd : rdS H x = some news) (k1 : news.length = n * i.size) (k2 : 0 < i.size) : ∃ vs, SrcOk P w t e i.size n vs xv ∧ VRs H μ news vs.toArray := by
  by_cases hn : 0 < news.length
  · obtain ⟨ax, cx, vs, rfl, hvl, hvc, hvr⟩ := Sk_ hr hx hlen hrd hn
    refine ⟨vs, ⟨.inl ht, fun w' => by simp [Builtin.lenOf], fun w' hw => ?_, by rw [hvl, k1]⟩, hvr⟩
    exact run_firstCells_some (P := P) w' i.size n ax n cx vs (by rw [hvl, k1]) fun j v hj => by rw [hw]; exact hvc j v hj
  · have h0 : news = [] := List.eq_nil_of_length_eq_zero (by omega)
    subst h0
    have hn0 : n = 0 := by
      rcases Nat.mul_eq_zero.1 (show n * i.size = 0 by simpa using k1.symm) with h | h
      · exact h
      · omega
    subst hn0
    obtain ⟨b, c', rfl⟩ := Rv_ hx hlen hrd
    refine ⟨[], ⟨.inl ht, fun w' => by simp [Builtin.lenOf], fun w' hw => ?_, by simp⟩, ⟨rfl, by simp⟩⟩
    cases b <;> simp [Builtin.firstCells, loadCells, loadCellsFrom]
theorem Ns_ (b : ByteArray) : (Bk_ b).length = b.size := by
  rw [Bk_, List.length_map, Array.length_toList]; rfl
theorem Zl_ {t e : TypeId} {i : TypeInfo} (ht : P.underlying t = some .string) (b : ByteArray) (k1 : (Bk_ b).length = b.size * i.size) : ∃ vs, SrcOk P w t e i.size b.size vs (.string b) ∧ VRs H μ (Bk_ b) vs.toArray := by
  refine ⟨b.data.toList.map fun x => .int .u8 x.toNat, ⟨.inr ht, fun w' => by simp [Builtin.lenOf], fun w' hw => ?_, by rw [← k1]; simp [Bk_]⟩, ⟨by simp [Bk_], fun j c v hc hv => ?_⟩⟩
  · simp [Builtin.firstCells]
    apply Array.ext'
    simp
  · simp only [List.getElem?_toArray, Bk_, List.getElem?_map] at hc hv
    cases hb : b.data.toList[j]? with
    | none => rw [hb] at hc; cases hc
    | some x => rw [hb] at hc hv; cases hc; cases hv; exact .int _ _
theorem Y3_ (hr : HR H μ w) {t tx ty e : TypeId} (ht : P.underlying t = some (.slice e)) {s z : AV} {n : Nat} {news : List AV} {sv xv : Value} (hs : VR H μ s sv)
    (hsrc : ∀ i : TypeInfo, news.length = n * i.size → 0 < i.size → ∃ vs, SrcOk P w tx e i.size n vs xv ∧ VRs H μ news vs.toArray) (h : appA P H e s n news = some (z, H')) : OkV P H μ w (Builtin.append_ #[t, tx] ty #[sv, xv]) z H' := by
  unfold appA at h
  cases hi : P.info? e with
  | none => rw [hi] at h; cases h
  | some i =>
  cases hz : i.zero with
  | none => rw [hi] at h; simp [hz] at h
  | some zv =>
  rw [hi] at h
  simp only [Option.bind_some, hz] at h
  split at h
  case isFalse => cases h
  rename_i hk
  obtain ⟨k1, k2, k3, k4, k5⟩ := hk
  obtain ⟨vs, hx0, hvr⟩ := hsrc i k1 k2
  have hvl : vs.length = news.length := by rw [hx0.cnt, k1]
  by_cases hn : n = 0
  · -- nothing is appended
    subst hn
    split at h
    · simp only [if_true, Option.some.injEq, Prod.mk.injEq] at h
      obtain ⟨rfl, rfl⟩ := h
      obtain rfl := hs.nilslc_inv
      exact OkV.here hr (Tg_ t tx ty e i ht hi none 0 0 (Nat.le_refl _) xv hx0) VR.nilslc
    · split at h
      · split at h
        · rename_i B hB hkk
          simp only [if_true, Option.some.injEq, Prod.mk.injEq] at h
          obtain ⟨rfl, rfl⟩ := h
          have hok := hs.slc_inv hB hkk.1
          rcases hok.2 with ⟨c, rfl, q1, q2⟩ | ⟨rfl, q1, a, rfl⟩
          · refine OkV.here hr (Tg_ t tx ty e i ht hi _ _ c ?_ xv hx0) hs
            have := hok.1
            rw [hkk.2.2.1] at this q1
            have h5 : ∀ a b : Nat, a * i.size ≤ b * i.size → a ≤ b := fun a b h => Nat.le_of_mul_le_mul_right h k2
            exact h5 _ _ (by omega)
          · exact OkV.here hr (Tg_ t tx ty e i ht hi _ 0 0 (Nat.le_refl _) xv hx0) hs
        · cases h
      · cases h
    · cases h
  · have hnpos : 0 < n := by omega
    have hnews : 0 < news.length := by rw [k1]; exact Nat.mul_pos hnpos k2
    have hone := Md_ k5 hvr
    rw [List.toList_toArray] at hone
    split at h
    · -- onto nil
      obtain rfl := hs.nilslc_inv
      rw [if_neg hn] at h
      split at h
      case isFalse => cases h
      rename_i hbd
      cases hna : newA H news i.size (!i.hasPointers) with
      | none => rw [hna] at h; cases h
      | some rH =>
        obtain ⟨r, H1⟩ := rH
        rw [hna] at h
        simp only [Option.map_some, Option.some.injEq, Prod.mk.injEq] at h
        obtain ⟨rfl, rfl⟩ := h
        have hrun := Aip_ (P := P) (w := w) t tx ty e i zv ht hi hz n vs hx0 hnpos (by omega) (by
          have : n * i.bytes ≤ 1073741824 * 1024 := Nat.mul_le_mul hbd k3
          omega)
        unfold newA at hna
        split at hna
        case isFalse => cases hna
        rename_i hfl
        simp only [Option.some.injEq, Prod.mk.injEq] at hna
        obtain ⟨rfl, rfl⟩ := hna
        have hge := grownCap_ge w n 0 e
        obtain ⟨g1, g2⟩ := hr.new (w₁ := w.drew) ⟨news, true, i.size, !i.hasPointers⟩ (vs.toArray ++ Builtin.zeroCells zv.cells (grownCap w n 0 e - n)) e rfl rfl rfl rfl
          (by simp [hvl]) (fun j c hc => by
            have hlt : j < vs.length := by rw [hvl]; exact (List.getElem?_eq_some_iff.1 hc).1
            refine ⟨vs[j], ?_, hvr.2 j c _ hc (by simp [hlt])⟩
            rw [Array.getElem?_append_left (by simpa using hlt)]; simp [hlt]) (fun hf c hc => List.all_eq_true.1 (hfl hf) c hc)
        refine ⟨_, _, _, hrun, ?_, g1, g2⟩
        refine .slc _ _ _ ⟨news, true, i.size, !i.hasPointers⟩ (by simp) (Nat.le_refl _) fun _ => ⟨by simp [k1], .inl ⟨grownCap w n 0 e, by simp [Mem.at], ?_, ?_⟩⟩
        · simp only [Nat.zero_add, k1]; exact Nat.mul_le_mul_right _ hge
        · simp only [Mem.at, if_true, Nat.zero_add, Array.size_append, List.size_toArray, size_zeroCells, hvl, k1, k4]
          rw [← Nat.add_mul]
          exact Nat.mul_le_mul_right _ (by omega)
    · -- onto a slice
      rename_i r len
      split at h
      case h_2 => cases h
      rename_i B hB
      split at h
      case isFalse => cases h
      rename_i hkk
      obtain ⟨m1, m2, m3, m4, m5⟩ := hkk
      obtain ⟨cur, e0, fr, c1, c2, c3, c4, c5⟩ := hr.cells r.id B hB
      obtain ⟨hoff, hfr⟩ := c5 m2
      have hok := hs.slc_inv hB m1
      have hmul : ∀ a b : Nat, a * i.size ≤ b * i.size → a ≤ b := fun a b h => Nat.le_of_mul_le_mul_right h k2
      split at h
      · -- at the end of the block
        rename_i hend
        simp only [Option.some.injEq, Prod.mk.injEq] at h
        obtain ⟨rfl, rfl⟩ := h
        obtain ⟨ho, hfull⟩ := hend
        have hcellsB : ∀ (j : Nat) (c : AV), (B.cells ++ news)[j]? = some c → (j < B.cells.length ∧ B.cells[j]? = some c) ∨ (B.cells.length ≤ j ∧ news[j - B.cells.length]? = some c) := fun j c hc => by
          by_cases hj : j < B.cells.length
          · rw [List.getElem?_append_left hj] at hc; exact .inl ⟨hj, hc⟩
          · rw [List.getElem?_append_right (by omega)] at hc; exact .inr ⟨by omega, hc⟩
        have hflat : B.flat = true → ∀ c ∈ B.cells ++ news, c.isFlat = true := fun hf c hc => by
          rcases List.mem_append.1 hc with hc | hc
          · exact hr.flat _ B hB hf c hc
          · exact List.all_eq_true.1 (m5 hf) c hc
        -- the two ways: room, or not
        by_cases hroom : ∃ c, sv = .slice (some ⟨μ.blk r.id, μ.off r.id + r.off, none⟩) len c ∧ B.cells.length ≤ r.off + c * B.sz ∧ r.off + c * B.sz ≤ μ.phys r.id ∧ len + n ≤ c
        · obtain ⟨c, rfl, q1, q2, q3⟩ := hroom
          rw [hoff, ho]
          have hlc : (len + n) * i.size ≤ c * i.size := Nat.mul_le_mul_right _ q3
          rw [Nat.add_mul] at hlc
          rw [m3] at q2
          have hrun := V0_ (P := P) (w := w) t tx ty e e0 i ht hi (μ.blk r.id) 0 len c cur c1 hfr n vs hx0 hone q3 (by rw [hvl, k1]; omega)
          simp only [Nat.zero_add] at hrun ⊢
          rw [hfull] at hrun
          obtain ⟨g1, g2⟩ := hr.upd (B' := { B with cells := B.cells ++ news }) hB m2 m2 rfl (by simp) (fun _ _ => ⟨rfl, rfl, rfl⟩) hoff (.inl rfl) (fun hl => by simp at hl; rw [hl] at hnews; simp at hnews)
            (cur.toList.take (B.cells.length) ++ vs ++ cur.toList.drop (B.cells.length + vs.length)).toArray e0 (setRow_heap w _ cur _ e0 _ c1) (by simp; omega) (by simp; omega)
            (fun b _ hne => setRow_other w _ b _ hne) (by simp [World.setRow]) rfl rfl rfl (fun j c' hc' => by
              rcases hcellsB j c' hc' with ⟨hj, hc⟩ | ⟨hj, hc⟩
              · obtain ⟨v, p1, p2⟩ := c4 j c' hc
                rw [hoff, Nat.zero_add] at p1
                refine ⟨v, ?_, p2⟩
                rw [List.getElem?_toArray, List.append_assoc, List.getElem?_append_left (by simp; omega), List.getElem?_take, if_pos hj, Array.getElem?_toList]
                exact p1
              · have hlt : j - B.cells.length < vs.length := by rw [hvl]; exact (List.getElem?_eq_some_iff.1 hc).1
                refine ⟨vs[j - B.cells.length], ?_, hvr.2 _ c' _ hc (by simp [hlt])⟩
                have hlen' : (cur.toList.take B.cells.length).length = B.cells.length := by simp; omega
                rw [List.getElem?_toArray, List.append_assoc, List.getElem?_append_right (by omega), hlen', List.getElem?_append_left (by omega)]
                simp [hlt]) hflat (by rw [show (cur.toList.take (B.cells.length) ++ vs ++ cur.toList.drop (B.cells.length + vs.length)).toArray.size = cur.size by simp; omega]; exact hfr)
          refine ⟨_, _, _, hrun, ?_, g1, g2⟩
          refine .slc _ _ _ { B with cells := B.cells ++ news } ?_ (by simp) fun _ => ⟨?_, .inl ⟨c, by simp [hoff], ?_, ?_⟩⟩
          · simp [(List.getElem?_eq_some_iff.1 hB).1]
          · simp only [List.length_append, k1, m3, Nat.zero_add, Nat.add_mul]; omega
          · simp only [List.length_append, k1, m3, Nat.zero_add]; omega
          · simp only [m3, Nat.zero_add]; omega
        · -- a new array
          have hsv : ∃ (b : Addr) (sCap : Nat) (olds : List Value), sv = .slice (some b) len sCap ∧ olds.length = len * i.size ∧ (∀ (j : Nat) (v : Value), olds[j]? = some v → w.cell? (b.add j) = some v) ∧ VRs H μ B.cells olds.toArray ∧ sCap < len + n := by
            rcases hok.2 with ⟨c, rfl, q1, q2⟩ | ⟨rfl, q1, a, rfl⟩
            · obtain ⟨os, o1, o2, o3⟩ := hr.row hB 0 B.cells.length (by omega)
              refine ⟨_, c, os, rfl, by rw [o1, hfull], ?_, ⟨by simp [o1], fun j c' v hc hv => o3 j c' v (by simpa using hc) (by simpa using hv)⟩, ?_⟩
              · rw [ho]; exact o2
              · rcases Nat.lt_or_ge c (len + n) with h | h
                · exact h
                · exact absurd ⟨c, rfl, q1, q2, h⟩ hroom
            · have h0 : B.cells = [] := List.eq_nil_of_length_eq_zero (by simpa using hfull.symm)
              exact ⟨a, 0, [], rfl, by simp, by simp, by rw [h0]; exact ⟨rfl, by simp⟩, by omega⟩
          obtain ⟨b, sCap, olds, rfl, o1, o2, o3, o4⟩ := hsv
          have hsc := nextslicecap_le (need := len + n) (old := sCap) o4
          have hrun := App_ (P := P) (w := w) t tx ty e i zv ht hi hz b len sCap olds o1 o2 n vs hx0 o4 (by omega) (by
            have : Builtin.nextslicecap (len + n) sCap * i.bytes ≤ (2 * (len + n)) * 1024 := Nat.mul_le_mul hsc k3
            omega)
          have hge := grownCap_ge w (len + n) sCap e
          have hcs := o3.append hvr
          obtain ⟨g1, g2⟩ := hr.upd (fr := (0, 0)) (μ' := μ.at r.id w.heap.size (olds.toArray ++ vs.toArray ++ Builtin.zeroCells zv.cells (grownCap w (len + n) sCap e - (len + n))).size)
            (w' := w.drew.alloc (.cells (olds.toArray ++ vs.toArray ++ Builtin.zeroCells zv.cells (grownCap w (len + n) sCap e - (len + n))) e))
            (B' := { B with cells := B.cells ++ news }) hB m2 m2 rfl (by simp) (fun j hj => by simp [Mem.at, hj]) (by simp [Mem.at]) (.inr (by simp [Mem.at])) (fun hl => by simp at hl; rw [hl] at hnews; simp at hnews)
            (olds.toArray ++ vs.toArray ++ Builtin.zeroCells zv.cells (grownCap w (len + n) sCap e - (len + n))) e (by rw [Q4_]; simp [Mem.at]) (by simp [Mem.at])
            (by simp [hvl, o1, hfull]) (fun b' hb' _ => by rw [Q4_, Array.getElem?_push, if_neg (by omega)]) (by rw [Q4_]; simp) rfl rfl rfl (fun j c' hc' => by
              have hlt : j < (olds ++ vs).length := by
                have h1 := (List.getElem?_eq_some_iff.1 hc').1
                have h2 := hcs.1
                simp only [List.size_toArray] at h1 h2
                omega
              refine ⟨(olds ++ vs)[j], ?_, hcs.2 j c' _ hc' (by simp only [List.getElem?_toArray]; exact List.getElem?_eq_getElem hlt)⟩
              rw [Array.getElem?_append_left (by simpa using hlt)]
              simp only [List.append_toArray, List.getElem?_toArray]
              exact List.getElem?_eq_getElem hlt) hflat
          refine ⟨_, _, _, hrun, ?_, g1, g2⟩
          refine .slc _ _ _ { B with cells := B.cells ++ news } ?_ (by simp) fun _ => ⟨?_, .inl ⟨grownCap w (len + n) sCap e, by simp [Mem.at], ?_, ?_⟩⟩
          · simp [(List.getElem?_eq_some_iff.1 hB).1]
          · simp only [List.length_append, k1, m3, Nat.zero_add, Nat.add_mul]; omega
          · simp only [List.length_append, k1, m3, Nat.zero_add]
            have : (len + n) * i.size ≤ grownCap w (len + n) sCap e * i.size := Nat.mul_le_mul_right _ hge
            rw [Nat.add_mul] at this; omega
          · simp only [Mem.at, if_true, Nat.zero_add, m3, Array.size_append, List.size_toArray, size_zeroCells, hvl, k1, k4, o1]
            rw [← Nat.add_mul, ← Nat.add_mul]
            exact Nat.mul_le_mul_right _ (by omega)
      · -- within the block
        rename_i hend
        split at h
        case isFalse => cases h
        rename_i hin
        simp only [Option.some.injEq, Prod.mk.injEq] at h
        obtain ⟨rfl, rfl⟩ := h
        rcases hok.2 with ⟨c, rfl, q1, q2⟩ | ⟨rfl, q1, a, rfl⟩
        · obtain ⟨cur', e', fr', d1, df, d2, d3, d4⟩ := hr.putRow hB m2 (r.off + len * i.size) news vs hin hvl.symm (fun j c' v hc hv => hvr.2 j c' v hc (by simpa using hv)) m5
          have hroom : len + n ≤ c := hmul _ _ (by rw [Nat.add_mul]; rw [m3] at q1; omega)
          have hrun := V0_ (P := P) (w := w) t tx ty e e' i ht hi (μ.blk r.id) r.off len c cur' d1 df n vs hx0 hone hroom (by omega)
          refine ⟨_, _, μ, by rw [hoff, Nat.zero_add]; exact hrun, ?_, d3, d4⟩
          refine .slc _ _ _ { B with cells := putAt B.cells (r.off + len * i.size) news } ?_ (by simp [Hd_]; omega) fun _ => ⟨?_, .inl ⟨c, by simp [hoff], by simpa [Hd_] using q1, q2⟩⟩
          · simp [(List.getElem?_eq_some_iff.1 hB).1]
          · simp only [Hd_, m3, Nat.add_mul]; rw [← k1]; omega
        · omega
    · cases h
theorem T5_ : ∀ {cs : List AV} {xs : List Int}, C8_ cs = some xs → cs = xs.map (AV.int .u8)
  | [], xs, h => by simp only [C8_, Option.some.injEq] at h; subst h; rfl
  | c :: cs, xs, h => by
    cases c with
    | int k n =>
      cases k <;> simp only [C8_, reduceCtorEq, Option.map_eq_some_iff] at h
      obtain ⟨ys, hy, rfl⟩ := h
      rw [T5_ hy]; rfl
    | _ => simp [C8_] at h
theorem U3_ (hr : HR H μ w) {s d : TypeId} {x z : AV} {a : Value} (ha : VR H μ x a) (h : convS P H s d x = some z) : OkV P H μ w (Go.convert s d a) z H := by
  unfold convS at h
  split at h
  case h_2 => cases h
  rename_i e hs hd
  split at h
  case h_2 => cases h
  rename_i he
  cases hrd : rdS H x with
  | none => rw [hrd] at h; cases h
  | some cs =>
  rw [hrd] at h
  simp only [Option.bind_some] at h
  cases hx : C8_ cs with
  | none => rw [hx] at h; cases h
  | some xs =>
  rw [hx] at h
  simp only [Option.bind_some] at h
  have hcs := T5_ hx
  have empty : (strOfNums [] : ByteArray) = ByteArray.empty := rfl
  split at h
  · rename_i r n
    split at h
    case h_2 => cases h
    rename_i B hB
    split at h
    case isFalse => cases h
    rename_i hsz
    cases h
    by_cases hn : 0 < cs.length
    · obtain ⟨ax, c, vs, rfl, hvl, hvc, hvr⟩ := Sk_ hr ha (show lenS (.slc r n) = some n from rfl) hrd hn
      have hnl : cs.length = n := by
        unfold rdS at hrd
        simp only [hB] at hrd
        split at hrd
        · rename_i hk; cases hrd; rw [hsz] at hk ⊢; simp; omega
        · cases hrd
      have hvs : vs = xs.map (Value.int .u8) := by
        refine List.ext_getElem? fun j => ?_
        rw [List.getElem?_map]
        rcases Nat.lt_or_ge j xs.length with hj | hj
        · have hjv : j < vs.length := by rw [hvl, hcs]; simpa using hj
          have := hvr.2 j (.int .u8 xs[j]) vs[j] (by rw [hcs, List.getElem?_map, List.getElem?_eq_getElem hj]; rfl) (by simp [hjv])
          rw [List.getElem?_eq_getElem hjv, List.getElem?_eq_getElem hj, this.int_inv]; rfl
        · rw [List.getElem?_eq_none hj, List.getElem?_eq_none (by rw [hvl, hcs]; simpa using hj)]; rfl
      refine OkV.here hr ?_ (VR.str _)
      have hl := run_loadCells_list (P := P) w ax vs hvc
      rw [hvl, hnl, hvs] at hl
      rw [run_convert_bytes_string w s d e _ n c hs he hd, run_bytesToString w ax n c xs hl, foldl_push_bytes]
      simp [strOfNums, ByteArray.empty, ByteArray.emptyWithCapacity]
      rfl
    · have h0 : cs = [] := List.eq_nil_of_length_eq_zero (by omega)
      rw [h0] at hcs
      have hx0 : xs = [] := by cases xs <;> simp at hcs ⊢
      subst hx0
      obtain ⟨b, c, rfl⟩ := Rv_ ha (show lenS (.slc r n) = some n from rfl) hrd
      have hn0 : n = 0 := by
        unfold rdS at hrd
        simp only [hB] at hrd
        split at hrd
        · rename_i hk; cases hrd
          have := congrArg List.length h0
          rw [hsz] at hk this
          simp at this; omega
        · cases hrd
      subst hn0
      refine OkV.here hr ?_ (VR.str _)
      rw [run_convert_bytes_string w s d e _ 0 c hs he hd, empty]
      cases b <;> simp [Conv.bytesToString, loadCells, loadCellsFrom]
  · cases h
    unfold rdS at hrd
    split at hrd
    · cases hrd
      have hx0 : xs = [] := by cases xs <;> simp at hcs ⊢
      subst hx0
      obtain rfl := ha.nilslc_inv
      exact OkV.here hr (by rw [run_convert_bytes_nil w s e hs he 0 0 d hd]; rfl) (VR.str _)
    · rename_i hno; exact (hno _ _ rfl).elim
    · cases hrd
theorem Z5_ (hr : HR H μ w) {s d : TypeId} {x z : AV} {a : Value} (ha : VR H μ x a) (h : convB P H s d x = some (z, H')) : OkV P H μ w (Go.convert s d a) z H' := by
  unfold convB at h
  split at h
  case h_2 => cases h
  rename_i su e hs hd
  split at h
  case h_2 => cases h
  rename_i he
  split at h
  · rename_i e' r n
    split at h
    case isFalse => cases h
    rename_i hk
    obtain ⟨rfl, hn⟩ := hk
    rw [hs] at hd; cases hd
    split at h
    case h_2 => cases h
    rename_i B hB
    split at h
    case isFalse => cases h
    rename_i hk
    obtain ⟨k1, k2⟩ := hk
    cases h
    obtain ⟨q1, q2⟩ := ha.slc_inv hB k1
    rcases q2 with ⟨c, rfl, q3, q4⟩ | ⟨rfl, _⟩
    · obtain ⟨cs, e0, fr, c1, c2, c3, c4, c5⟩ := hr.cells r.id B hB
      obtain ⟨hoff, hfr⟩ := c5 k2
      have hrun : (Go.convert s s (.slice (some ⟨μ.blk r.id, μ.off r.id + r.off, none⟩) n c)).run P w = .ok (.slice (some ⟨μ.blk r.id, μ.off r.id + r.off, none⟩) n c) (w.freeze ⟨μ.blk r.id, cs.size, none⟩ 1) := by
        have hsh : w.shape? (μ.blk r.id) = some (e0, cs.size) := by simp [World.shape?, c1]
        simp [Go.convert, run_underlying hs, run_underlying he, markStringish, hsh]
      have hheap : ∀ b : Nat, b ≠ μ.blk r.id → (w.freeze ⟨μ.blk r.id, cs.size, none⟩ 1).heap[b]? = w.heap[b]? := fun b hb => by
        simp [World.freeze, Array.getElem?_modify, Ne.symm hb]
      obtain ⟨fr', hw', hfr'⟩ : ∃ fr', (w.freeze ⟨μ.blk r.id, cs.size, none⟩ 1).heap[μ.blk r.id]? = some (.cells cs e0 fr') ∧ Fz fr' cs.size := by
        obtain ⟨lo, hi⟩ := fr
        by_cases hlh : lo = hi
        · refine ⟨(cs.size, cs.size + 1), ?_, .inr (Nat.le_refl _)⟩
          simp [World.freeze, Array.getElem?_modify, c1, hlh]
        · refine ⟨(min lo cs.size, max hi (cs.size + 1)), ?_, .inr ?_⟩
          · simp [World.freeze, Array.getElem?_modify, c1, hlh]
          · rcases hfr with hfr | hfr
            · cases hfr; exact absurd rfl hlh
            · simp only at hfr ⊢; omega
      obtain ⟨g1, g2⟩ := hr.upd (B' := B) (μ' := μ) (w' := w.freeze ⟨μ.blk r.id, cs.size, none⟩ 1) hB k2 k2 rfl (Nat.le_refl _) (fun _ _ => ⟨rfl, rfl, rfl⟩) hoff (.inl rfl) (fun _ => ⟨rfl, rfl⟩) cs e0 hw' (by omega) (by omega)
        (fun b _ hb => hheap b hb) (by simp [World.freeze]) rfl rfl rfl (fun i c hc => by obtain ⟨v, h1, h2⟩ := c4 i c hc; rw [hoff, Nat.zero_add] at h1; exact ⟨v, h1, h2⟩) (hr.flat _ B hB) hfr'
      have hset : H.set r.id B = H := by
        obtain ⟨h1, h2⟩ := List.getElem?_eq_some_iff.1 hB
        rw [← h2, List.set_getElem_self]
      rw [hset] at g1 g2
      exact ⟨_, _, μ, hrun, ha.adv g2, g1, g2⟩
    · omega
  · rename_i b
    cases h
    obtain rfl := ha.str_inv
    have hrun := Lib.run_convert_string_bytes (P := P) w s d e b hs hd he
    have hsize : (Lib.bytesCells w e b).size = grownCap w b.size 0 e := by
      have := grownCap_ge w b.size 0 e
      simp only [Lib.bytesCells, Array.size_append, Array.size_map, Array.size_replicate]
      show b.size + _ = _
      omega
    have hge := grownCap_ge w b.size 0 e
    obtain ⟨g1, g2⟩ := hr.push (μ' := μ.at H.length w.heap.size (Lib.bytesCells w e b).size) (w' := Lib.bytesWorld w e b) (B' := ⟨Bk_ b, true, 1, true⟩) (fun j hj => by simp [Mem.at, hj]) (by simp [Mem.at]) (by simp [Mem.at])
      (Lib.bytesCells w e b) e (by simp only [Mem.at, if_true]; exact Lib.bytesWorld_at_new w e b) (by simp [Mem.at]) (by rw [hsize, Ns_]; exact hge) (fun k hk => Lib.bytesWorld_at_old w e b k hk) (by rw [Lib.bytesWorld_size]; omega) rfl rfl rfl
      (fun j c hc => by
        simp only [Bk_, List.getElem?_map] at hc
        cases hb : b.data.toList[j]? with
        | none => rw [hb] at hc; cases hc
        | some x =>
          rw [hb] at hc; cases hc
          have hj := (List.getElem?_eq_some_iff.1 hb).1
          refine ⟨.int .u8 x.toNat, ?_, .int _ _⟩
          rw [Lib.bytesCells, Array.getElem?_append_left (by simpa using hj), Array.getElem?_map, ← Array.getElem?_toList, hb]; rfl)
      (fun _ c hc => by simp only [Bk_, List.mem_map] at hc; obtain ⟨x, _, rfl⟩ := hc; rfl) (.inr (Nat.le_refl _))
    refine ⟨_, _, _, hrun, ?_, g1, g2⟩
    refine .slc _ _ _ ⟨Bk_ b, true, 1, true⟩ (by simp) (by simp [Ns_]) fun _ => ⟨by simp [Ns_], .inl ⟨grownCap w b.size 0 e, by simp [Mem.at], ?_, ?_⟩⟩
    · simp [Ns_]; exact hge
    · simp [Mem.at, hsize]
  · cases h
theorem Afy_ (hr : HR H μ w) {s d : TypeId} {x z : AV} {a : Value} (ha : VR H μ x a) (h : convH P H s d x = some (z, H')) : OkV P H μ w (Go.convert s d a) z H' := by
  unfold convH at h
  split at h
  · exact Z5_ hr ha h
  · split at h
    · obtain ⟨v, hv, h⟩ := Option.map_eq_some_iff.1 h
      cases h; exact U3_ hr ha hv
    · obtain ⟨v, hv, h⟩ := Option.map_eq_some_iff.1 h
      cases h; exact U3_ hr ha hv
    · obtain ⟨v, hv, h⟩ := Option.map_eq_some_iff.1 h
      cases h; exact Ade_ hr ha hv
end
end Go.Proofs.Ytmgpbchacndndaa.AM
