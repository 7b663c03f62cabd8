/- The abstract machine, part 7: append, make, slices' and structs' parts. -/
import Derived.Test.YtbjnjaclmcpbbaaA6
set_option linter.unusedSimpArgs false
set_option linter.unusedVariables false
namespace Go.Proofs.Ytbjnjaclmcpbbaa.AM
section
variable {P : Program} {H H' : Heap} {μ : Mem} {w : World}

theorem run_append_zero (t ty e : TypeId) (i : TypeInfo) (ht : P.underlying t = some (.slice e)) (hi : P.info? e = some i)
    (s : Option Addr) (n c : Nat) (hn : n ≤ c) (x : Value) (hx : (∃ b c', x = .slice b 0 c')) :
    (Builtin.append_ #[t, t] ty #[.slice s n c, x]).run P w = .ok (.slice s n c) w := by
  obtain ⟨b, c', rfl⟩ := hx
  cases b <;> cases s <;> simp [Builtin.append_, run_underlying ht, sizeOf, typeInfo, hi, Builtin.lenOf, Builtin.firstCells, hn, loadCells, loadCellsFrom, storeCells]

theorem run_append_inplace (t ty e e' : TypeId) (i : TypeInfo) (ht : P.underlying t = some (.slice e)) (hi : P.info? e = some i)
    (g o sLen sCap : Nat) (cur : Array Value) (hg : w.heap[g]? = some (.cells cur e' (0, 0)))
    (a : Addr) (m c : Nat) (news : List Value) (hl : news.length = m * i.size) (hnews : ∀ j u, news[j]? = some u → w.cell? (a.add j) = some u) (h1 : ∀ u ∈ news, u.oneCell' = true)
    (hroom : sLen + m ≤ sCap) (hfit : o + sLen * i.size + news.length ≤ cur.size) :
    (Builtin.append_ #[t, t] ty #[.slice (some ⟨g, o, none⟩) sLen sCap, .slice (some a) m c]).run P w =
      .ok (.slice (some ⟨g, o, none⟩) (sLen + m) sCap) (w.setRow g (cur.toList.take (o + sLen * i.size) ++ news ++ cur.toList.drop (o + sLen * i.size + news.length)).toArray) := by
  have hf := run_firstCells_some (P := P) w i.size m a m c news hl hnews
  have hst := run_storeCells_at P g (o + sLen * i.size) e' news 0 cur w hg (by simpa using hfit) h1
  simp only [Nat.add_zero] at hst
  simp [Builtin.append_, run_underlying ht, sizeOf, typeInfo, hi, Builtin.lenOf, hroom, hf, addr_add, hst]

theorem VRs.append {cs cs' : List AV} {vs vs' : List Value} (h : VRs H μ cs vs.toArray) (h' : VRs H μ cs' vs'.toArray) : VRs H μ (cs ++ cs') (vs ++ vs').toArray := by
  obtain ⟨h1, h2⟩ := h
  obtain ⟨h3, h4⟩ := h'
  simp only [List.size_toArray] at h1 h3
  refine ⟨by simp [h1, h3], fun i c v hc hv => ?_⟩
  simp only [List.getElem?_toArray] at hv
  by_cases hi : i < cs.length
  · rw [List.getElem?_append_left hi] at hc
    rw [List.getElem?_append_left (by omega)] at hv
    exact h2 i c v hc (by simpa using hv)
  · rw [List.getElem?_append_right (by omega)] at hc
    rw [List.getElem?_append_right (by omega)] at hv
    exact h4 _ c v hc (by rw [h1]; simpa using hv)

theorem heap_drew_alloc (w : World) (o : Obj) : (w.drew.alloc o).heap = w.heap.push o := rfl

/-- What is appended, as the memory holds it. -/
theorem rdS_row (hr : HR H μ w) {x : AV} {n : Nat} {news : List AV} {xv : Value} (hx : VR H μ x xv) (hlen : lenS x = some n) (hrd : rdS H x = some news) (hn : 0 < news.length) :
    ∃ a c, ∃ vs : List Value, xv = .slice (some a) n c ∧ vs.length = news.length ∧ (∀ (j : Nat) (v : Value), vs[j]? = some v → w.cell? (a.add j) = some v) ∧ VRs H μ news vs.toArray := by
  unfold rdS at hrd
  split at hrd
  · cases hrd; simp at hn
  · rename_i r m
    cases hlen
    split at hrd
    · rename_i B hB
      split at hrd
      · rename_i hk
        cases hrd
        obtain ⟨k1, k2⟩ := hx.slc_inv hB hk.1
        rcases k2 with ⟨c, rfl, k3, k4⟩ | ⟨rfl, _, _⟩
        · obtain ⟨vs, h1, h2, h3⟩ := hr.row hB r.off (n * B.sz) hk.2
          refine ⟨_, c, vs, rfl, by rw [h1]; simp; omega, h2, by rw [List.size_toArray, h1]; simp; omega, fun i c' v hc hv => h3 i c' v hc (by simpa using hv)⟩
        · simp at hn
      · cases hrd
    · cases hrd
  · cases hrd

theorem rdS_slice {x : AV} {n : Nat} {news : List AV} {xv : Value} (hx : VR H μ x xv) (hlen : lenS x = some n) (hrd : rdS H x = some news) : ∃ b c', xv = .slice b n c' := by
  unfold rdS at hrd
  split at hrd
  · cases hlen; obtain rfl := hx.nilslc_inv; exact ⟨_, _, rfl⟩
  · cases hlen
    split at hrd
    · rename_i B hB
      split at hrd
      · rename_i hk
        obtain ⟨a, c, rfl⟩ := (hx.slc_inv hB hk.1).slice
        exact ⟨_, _, rfl⟩
      · cases hrd
    · cases hrd
  · cases hrd

theorem appA_ok (hr : HR H μ w) {t ty e : TypeId} (ht : P.underlying t = some (.slice e)) {s x z : AV} {n : Nat} {news : List AV} {sv xv : Value} (hs : VR H μ s sv) (hx : VR H μ x xv)
    (hlen : lenS x = some n) (hrd : rdS H x = some news) (h : appA P H e s n news = some (z, H')) : OkV P H μ w (Builtin.append_ #[t, t] ty #[sv, xv]) z H' := by
  unfold appA at h
  cases hi : P.info? e with
  | none => rw [hi] at h; cases h
  | some i =>
  cases hz : i.zero with
  | none => rw [hi] at h; simp [hz] at h
  | some zv =>
  rw [hi] at h
  simp only [Option.bind_some, hz] at h
  split at h
  case isFalse => cases h
  rename_i hk
  obtain ⟨k1, k2, k3, k4, k5⟩ := hk
  by_cases hn : n = 0
  · -- nothing is appended
    subst hn
    have hx0 := rdS_slice hx hlen hrd
    split at h
    · simp only [if_true, Option.some.injEq, Prod.mk.injEq] at h
      obtain ⟨rfl, rfl⟩ := h
      obtain rfl := hs.nilslc_inv
      exact OkV.here hr (run_append_zero t ty e i ht hi none 0 0 (Nat.le_refl _) xv hx0) VR.nilslc
    · split at h
      · split at h
        · rename_i B hB hkk
          simp only [if_true, Option.some.injEq, Prod.mk.injEq] at h
          obtain ⟨rfl, rfl⟩ := h
          have hok := hs.slc_inv hB hkk.1
          rcases hok.2 with ⟨c, rfl, q1, q2⟩ | ⟨rfl, q1, a, rfl⟩
          · refine OkV.here hr (run_append_zero t ty e i ht hi _ _ c ?_ xv hx0) hs
            have := hok.1
            rw [hkk.2.2.1] at this q1
            have h5 : ∀ a b : Nat, a * i.size ≤ b * i.size → a ≤ b := fun a b h => Nat.le_of_mul_le_mul_right h k2
            exact h5 _ _ (by omega)
          · exact OkV.here hr (run_append_zero t ty e i ht hi _ 0 0 (Nat.le_refl _) xv hx0) hs
        · cases h
      · cases h
    · cases h
  · have hnpos : 0 < n := by omega
    have hnews : 0 < news.length := by rw [k1]; exact Nat.mul_pos hnpos k2
    obtain ⟨ax, cx, vs, rfl, hvl, hvc, hvr⟩ := rdS_row hr hx hlen hrd hnews
    have hone := all_oneCell k5 hvr
    rw [List.toList_toArray] at hone
    split at h
    · -- onto nil
      obtain rfl := hs.nilslc_inv
      rw [if_neg hn] at h
      split at h
      case isFalse => cases h
      rename_i hbd
      cases hna : newA H news i.size (!i.hasPointers) with
      | none => rw [hna] at h; cases h
      | some rH =>
        obtain ⟨r, H1⟩ := rH
        rw [hna] at h
        simp only [Option.map_some, Option.some.injEq, Prod.mk.injEq] at h
        obtain ⟨rfl, rfl⟩ := h
        have hrun := run_append_nil (P := P) w t ty e i zv ht hi hz ax n cx vs (by rw [hvl, k1]) hvc hnpos (by omega) (by
          have : n * i.bytes ≤ 1073741824 * 1024 := Nat.mul_le_mul hbd k3
          omega)
        unfold newA at hna
        split at hna
        case isFalse => cases hna
        rename_i hfl
        simp only [Option.some.injEq, Prod.mk.injEq] at hna
        obtain ⟨rfl, rfl⟩ := hna
        have hge := grownCap_ge w n 0 e
        obtain ⟨g1, g2⟩ := hr.new (w₁ := w.drew) ⟨news, true, i.size, !i.hasPointers⟩ (vs.toArray ++ Builtin.zeroCells zv.cells (grownCap w n 0 e - n)) e rfl rfl rfl rfl
          (by simp [hvl]) (fun j c hc => by
            have hlt : j < vs.length := by rw [hvl]; exact (List.getElem?_eq_some_iff.1 hc).1
            refine ⟨vs[j], ?_, hvr.2 j c _ hc (by simp [hlt])⟩
            rw [Array.getElem?_append_left (by simpa using hlt)]; simp [hlt]) (fun hf c hc => List.all_eq_true.1 (hfl hf) c hc)
        refine ⟨_, _, _, hrun, ?_, g1, g2⟩
        refine .slc _ _ _ ⟨news, true, i.size, !i.hasPointers⟩ (by simp) (Nat.le_refl _) fun _ => ⟨by simp [k1], .inl ⟨grownCap w n 0 e, by simp [Mem.at], ?_, ?_⟩⟩
        · simp only [Nat.zero_add, k1]; exact Nat.mul_le_mul_right _ hge
        · simp only [Mem.at, if_true, Nat.zero_add, Array.size_append, List.size_toArray, size_zeroCells, hvl, k1, k4]
          rw [← Nat.add_mul]
          exact Nat.mul_le_mul_right _ (by omega)
    · -- onto a slice
      rename_i r len
      split at h
      case h_2 => cases h
      rename_i B hB
      split at h
      case isFalse => cases h
      rename_i hkk
      obtain ⟨m1, m2, m3, m4, m5⟩ := hkk
      obtain ⟨cur, e0, fr, c1, c2, c3, c4, c5⟩ := hr.cells r.id B hB
      obtain ⟨hoff, rfl⟩ := c5 m2
      have hok := hs.slc_inv hB m1
      have hmul : ∀ a b : Nat, a * i.size ≤ b * i.size → a ≤ b := fun a b h => Nat.le_of_mul_le_mul_right h k2
      split at h
      · -- at the end of the block
        rename_i hend
        simp only [Option.some.injEq, Prod.mk.injEq] at h
        obtain ⟨rfl, rfl⟩ := h
        obtain ⟨ho, hfull⟩ := hend
        have hcellsB : ∀ (j : Nat) (c : AV), (B.cells ++ news)[j]? = some c → (j < B.cells.length ∧ B.cells[j]? = some c) ∨ (B.cells.length ≤ j ∧ news[j - B.cells.length]? = some c) := fun j c hc => by
          by_cases hj : j < B.cells.length
          · rw [List.getElem?_append_left hj] at hc; exact .inl ⟨hj, hc⟩
          · rw [List.getElem?_append_right (by omega)] at hc; exact .inr ⟨by omega, hc⟩
        have hflat : B.flat = true → ∀ c ∈ B.cells ++ news, c.isFlat = true := fun hf c hc => by
          rcases List.mem_append.1 hc with hc | hc
          · exact hr.flat _ B hB hf c hc
          · exact List.all_eq_true.1 (m5 hf) c hc
        -- the two ways: room, or not
        by_cases hroom : ∃ c, sv = .slice (some ⟨μ.blk r.id, μ.off r.id + r.off, none⟩) len c ∧ B.cells.length ≤ r.off + c * B.sz ∧ r.off + c * B.sz ≤ μ.phys r.id ∧ len + n ≤ c
        · obtain ⟨c, rfl, q1, q2, q3⟩ := hroom
          rw [hoff, ho]
          have hlc : (len + n) * i.size ≤ c * i.size := Nat.mul_le_mul_right _ q3
          rw [Nat.add_mul] at hlc
          rw [m3] at q2
          have hrun := run_append_inplace (P := P) (w := w) t ty e e0 i ht hi (μ.blk r.id) 0 len c cur c1 ax n cx vs (by rw [hvl, k1]) hvc hone q3 (by rw [hvl, k1]; omega)
          simp only [Nat.zero_add] at hrun ⊢
          rw [hfull] at hrun
          obtain ⟨g1, g2⟩ := hr.upd (B' := { B with cells := B.cells ++ news }) hB m2 m2 rfl (by simp) (fun _ _ => ⟨rfl, rfl, rfl⟩) hoff (.inl rfl) (fun hl => by simp at hl; rw [hl] at hnews; simp at hnews)
            (cur.toList.take (B.cells.length) ++ vs ++ cur.toList.drop (B.cells.length + vs.length)).toArray e0 (setRow_heap w _ cur _ e0 _ c1) (by simp; omega) (by simp; omega)
            (fun b _ hne => setRow_other w _ b _ hne) (by simp [World.setRow]) rfl rfl rfl (fun j c' hc' => by
              rcases hcellsB j c' hc' with ⟨hj, hc⟩ | ⟨hj, hc⟩
              · obtain ⟨v, p1, p2⟩ := c4 j c' hc
                rw [hoff, Nat.zero_add] at p1
                refine ⟨v, ?_, p2⟩
                rw [List.getElem?_toArray, List.append_assoc, List.getElem?_append_left (by simp; omega), List.getElem?_take, if_pos hj, Array.getElem?_toList]
                exact p1
              · have hlt : j - B.cells.length < vs.length := by rw [hvl]; exact (List.getElem?_eq_some_iff.1 hc).1
                refine ⟨vs[j - B.cells.length], ?_, hvr.2 _ c' _ hc (by simp [hlt])⟩
                have hlen' : (cur.toList.take B.cells.length).length = B.cells.length := by simp; omega
                rw [List.getElem?_toArray, List.append_assoc, List.getElem?_append_right (by omega), hlen', List.getElem?_append_left (by omega)]
                simp [hlt]) hflat
          refine ⟨_, _, _, hrun, ?_, g1, g2⟩
          refine .slc _ _ _ { B with cells := B.cells ++ news } ?_ (by simp) fun _ => ⟨?_, .inl ⟨c, by simp [hoff], ?_, ?_⟩⟩
          · simp [(List.getElem?_eq_some_iff.1 hB).1]
          · simp only [List.length_append, k1, m3, Nat.zero_add, Nat.add_mul]; omega
          · simp only [List.length_append, k1, m3, Nat.zero_add]; omega
          · simp only [m3, Nat.zero_add]; omega
        · -- a new array
          have hsv : ∃ (b : Addr) (sCap : Nat) (olds : List Value), sv = .slice (some b) len sCap ∧ olds.length = len * i.size ∧ (∀ (j : Nat) (v : Value), olds[j]? = some v → w.cell? (b.add j) = some v) ∧ VRs H μ B.cells olds.toArray ∧ sCap < len + n := by
            rcases hok.2 with ⟨c, rfl, q1, q2⟩ | ⟨rfl, q1, a, rfl⟩
            · obtain ⟨os, o1, o2, o3⟩ := hr.row hB 0 B.cells.length (by omega)
              refine ⟨_, c, os, rfl, by rw [o1, hfull], ?_, ⟨by simp [o1], fun j c' v hc hv => o3 j c' v (by simpa using hc) (by simpa using hv)⟩, ?_⟩
              · rw [ho]; exact o2
              · rcases Nat.lt_or_ge c (len + n) with h | h
                · exact h
                · exact absurd ⟨c, rfl, q1, q2, h⟩ hroom
            · have h0 : B.cells = [] := List.eq_nil_of_length_eq_zero (by simpa using hfull.symm)
              exact ⟨a, 0, [], rfl, by simp, by simp, by rw [h0]; exact ⟨rfl, by simp⟩, by omega⟩
          obtain ⟨b, sCap, olds, rfl, o1, o2, o3, o4⟩ := hsv
          have hsc := nextslicecap_le (need := len + n) (old := sCap) o4
          have hrun := run_append_grow (P := P) w t ty e i zv ht hi hz b len sCap olds o1 o2 ax n cx vs (by rw [hvl, k1]) hvc o4 (by omega) (by
            have : Builtin.nextslicecap (len + n) sCap * i.bytes ≤ (2 * (len + n)) * 1024 := Nat.mul_le_mul hsc k3
            omega)
          have hge := grownCap_ge w (len + n) sCap e
          have hcs := o3.append hvr
          obtain ⟨g1, g2⟩ := hr.upd (μ' := μ.at r.id w.heap.size (olds.toArray ++ vs.toArray ++ Builtin.zeroCells zv.cells (grownCap w (len + n) sCap e - (len + n))).size)
            (w' := w.drew.alloc (.cells (olds.toArray ++ vs.toArray ++ Builtin.zeroCells zv.cells (grownCap w (len + n) sCap e - (len + n))) e))
            (B' := { B with cells := B.cells ++ news }) hB m2 m2 rfl (by simp) (fun j hj => by simp [Mem.at, hj]) (by simp [Mem.at]) (.inr (by simp [Mem.at])) (fun hl => by simp at hl; rw [hl] at hnews; simp at hnews)
            (olds.toArray ++ vs.toArray ++ Builtin.zeroCells zv.cells (grownCap w (len + n) sCap e - (len + n))) e (by rw [heap_drew_alloc]; simp [Mem.at]) (by simp [Mem.at])
            (by simp [hvl, o1, hfull]) (fun b' hb' _ => by rw [heap_drew_alloc, Array.getElem?_push, if_neg (by omega)]) (by rw [heap_drew_alloc]; simp) rfl rfl rfl (fun j c' hc' => by
              have hlt : j < (olds ++ vs).length := by
                have h1 := (List.getElem?_eq_some_iff.1 hc').1
                have h2 := hcs.1
                simp only [List.size_toArray] at h1 h2
                omega
              refine ⟨(olds ++ vs)[j], ?_, hcs.2 j c' _ hc' (by simp only [List.getElem?_toArray]; exact List.getElem?_eq_getElem hlt)⟩
              rw [Array.getElem?_append_left (by simpa using hlt)]
              simp only [List.append_toArray, List.getElem?_toArray]
              exact List.getElem?_eq_getElem hlt) hflat
          refine ⟨_, _, _, hrun, ?_, g1, g2⟩
          refine .slc _ _ _ { B with cells := B.cells ++ news } ?_ (by simp) fun _ => ⟨?_, .inl ⟨grownCap w (len + n) sCap e, by simp [Mem.at], ?_, ?_⟩⟩
          · simp [(List.getElem?_eq_some_iff.1 hB).1]
          · simp only [List.length_append, k1, m3, Nat.zero_add, Nat.add_mul]; omega
          · simp only [List.length_append, k1, m3, Nat.zero_add]
            have : (len + n) * i.size ≤ grownCap w (len + n) sCap e * i.size := Nat.mul_le_mul_right _ hge
            rw [Nat.add_mul] at this; omega
          · simp only [Mem.at, if_true, Nat.zero_add, m3, Array.size_append, List.size_toArray, size_zeroCells, hvl, k1, k4, o1]
            rw [← Nat.add_mul, ← Nat.add_mul]
            exact Nat.mul_le_mul_right _ (by omega)
      · -- within the block
        rename_i hend
        split at h
        case isFalse => cases h
        rename_i hin
        simp only [Option.some.injEq, Prod.mk.injEq] at h
        obtain ⟨rfl, rfl⟩ := h
        rcases hok.2 with ⟨c, rfl, q1, q2⟩ | ⟨rfl, q1, a, rfl⟩
        · obtain ⟨cur', e', d1, d2, d3, d4⟩ := hr.putRow hB m2 (r.off + len * i.size) news vs hin hvl.symm (fun j c' v hc hv => hvr.2 j c' v hc (by simpa using hv)) m5
          have hroom : len + n ≤ c := hmul _ _ (by rw [Nat.add_mul]; rw [m3] at q1; omega)
          have hrun := run_append_inplace (P := P) (w := w) t ty e e' i ht hi (μ.blk r.id) r.off len c cur' d1 ax n cx vs (by rw [hvl, k1]) hvc hone hroom (by omega)
          refine ⟨_, _, μ, by rw [hoff, Nat.zero_add]; exact hrun, ?_, d3, d4⟩
          refine .slc _ _ _ { B with cells := putAt B.cells (r.off + len * i.size) news } ?_ (by simp [putAt_length]; omega) fun _ => ⟨?_, .inl ⟨c, by simp [hoff], by simpa [putAt_length] using q1, q2⟩⟩
          · simp [(List.getElem?_eq_some_iff.1 hB).1]
          · simp only [putAt_length, m3, Nat.add_mul]; rw [← k1]; omega
        · omega
    · cases h

end
end Go.Proofs.Ytbjnjaclmcpbbaa.AM
