import Derived.Test.YtmgpbchacndndaaA5
set_option linter.unusedSimpArgs false
set_option linter.unusedVariables false
namespace Go.Proofs.Ytmgpbchacndndaa.AM
section
variable {P : Program} {H H' : Heap} {μ : Mem} {w : World}
theorem Id_ (b o n : Nat) : (⟨b, o, none⟩ : Addr).add n = ⟨b, o + n, none⟩ := by
  unfold Addr.add; split <;> simp_all
theorem Kd_ (P : Program) (g o : Nat) (t : TypeId) (fz : Nat × Nat) : ∀ (vs : List Value) (i : Nat) (cur : Array Value) (w : World), w.heap[g]? = some (.cells cur t fz) → Fz fz cur.size → o + i + vs.length ≤ cur.size → (∀ v ∈ vs, v.oneCell' = true) →
    (storeCells ⟨g, o, none⟩ vs i).run P w = .ok () (w.setRow g (cur.toList.take (o + i) ++ vs ++ cur.toList.drop (o + i + vs.length)).toArray)
  | [], i, cur, w, hg, _, _, _ => by
    simp only [storeCells, List.append_nil, List.length_nil, Nat.add_zero, List.take_append_drop, Array.toArray_toList]
    rw [setRow_self w g cur t fz hg]
    rfl
  | v :: rest, i, cur, w, hg, hfz, hl, h1 => by
    have hi : o + i < cur.size := by simp at hl; omega
    have hadd : (⟨g, o, none⟩ : Addr).add i = ⟨g, o + i, none⟩ := by unfold Addr.add; split <;> simp_all
    have hcell : w.cell? ⟨g, o + i, none⟩ = some cur[o + i] := by simp [World.cell?, hg, hi]
    have hfro : w.frozen? ⟨g, o + i, none⟩ = false := by
      obtain ⟨lo, hi'⟩ := fz
      simp only [World.frozen?, hg, Bool.and_eq_false_iff, decide_eq_false_iff_not]
      rcases hfz with hfz | hfz
      · cases hfz; right; omega
      · left; simp only at hfz; omega
    have hst : (store ((⟨g, o, none⟩ : Addr).add i) v).run P w = .ok () (w.setRow g (cur.setIfInBounds (o + i) v)) := by
      rw [hadd, run_store P w _ v _ (h1 v (by simp)), hcell]
      simp [hfro, setCell_eq_setRow w g (o + i) cur t fz v hg]
    have ih := Kd_ P g o t fz rest (i + 1) (cur.setIfInBounds (o + i) v) (w.setRow g (cur.setIfInBounds (o + i) v)) (setRow_heap w g cur _ t _ hg) (by simpa using hfz) (by simp at hl ⊢; omega) (fun x hx => h1 x (by simp [hx]))
    simp only [storeCells, Sem.run_bind, hst, Result.andThen_ok, ih, setRow_setRow]
    congr 3
    have e := list_seg_step cur.toList (o + i) v rest (by simp at hl ⊢; omega)
    simpa [Array.toList_setIfInBounds, Nat.add_assoc] using e
theorem HR.row (hr : HR H μ w) {id : Nat} {B : Blk} (hB : H[id]? = some B) (o n : Nat) (hn : o + n ≤ B.cells.length) :
    ∃ vs : List Value, vs.length = n ∧ (∀ (j : Nat) (v : Value), vs[j]? = some v → w.cell? ((⟨μ.blk id, μ.off id + o, none⟩ : Addr).add j) = some v) ∧
      ∀ (j : Nat) (c : AV) (v : Value), ((B.cells.drop o).take n)[j]? = some c → vs[j]? = some v → VR H μ c v := by
  refine ⟨(List.range n).map fun j => (w.cell? ⟨μ.blk id, μ.off id + o + j, none⟩).getD undef, by simp, fun j v hj => ?_, fun j c v hc hj => ?_⟩
  · rw [List.getElem?_map] at hj
    have hjn : j < n := by
      rcases Nat.lt_or_ge j n with h | h
      · exact h
      · rw [List.getElem?_eq_none (by simpa using h)] at hj; cases hj
    rw [List.getElem?_range hjn] at hj
    cases hj
    rw [Id_]
    obtain ⟨v, h1, _⟩ := hr.cell hB (List.getElem?_eq_getElem (show o + j < B.cells.length by omega))
    simp only [Nat.add_assoc, h1, Option.getD_some]
  · have hjn : j < n := by
      rcases Nat.lt_or_ge j n with h | h
      · exact h
      · rw [List.getElem?_take, if_neg (by omega)] at hc; cases hc
    rw [List.getElem?_take, if_pos hjn, List.getElem?_drop] at hc
    rw [List.getElem?_map, List.getElem?_range hjn] at hj
    cases hj
    obtain ⟨v, h1, h2⟩ := hr.cell hB hc
    simp only [Nat.add_assoc, h1, Option.getD_some]; exact h2
theorem Bj_ {t : TypeId} {n : Nat} (h : szA P t = some n) (w : World) : (sizeOf t).run P w = .ok n w := by
  unfold szA at h
  cases hi : P.info? t with
  | none => rw [hi] at h; cases h
  | some i => rw [hi] at h; cases h; simp [sizeOf, typeInfo, hi]
def aggD : TypeDesc → Bool
  | .struct _ | .array _ _ => true
  | _ => false
theorem L2_ {t : TypeId} {d : TypeDesc} (h : P.underlying t = some d) (w : World) : (isAgg t).run P w = .ok (aggD d) w := by
  unfold isAgg
  rw [Sem.run_bind, run_underlying h]
  cases d <;> rfl
theorem V9_ (hr : HR H μ w) {t : TypeId} {x z : AV} {a : Value} (ha : VR H μ x a) (h : loadA P H t x = some z) :
    ∃ ad v, a = .pointer (some ad) ∧ (loadVar t ad).run P w = .ok v w ∧ VR H μ z v := by
  unfold loadA at h
  split at h
  · rename_i r
    have struct_arm : ∀ (fs : Array Field), P.underlying t = some (.struct fs) → ((szA P t).bind fun n => (ldN H r n).map AV.agg) = some z → ∃ ad v, a = .pointer (some ad) ∧ (loadVar t ad).run P w = .ok v w ∧ VR H μ z v := by
      intro fs hu h
      cases hs : szA P t with
      | none => rw [hs] at h; cases h
      | some n =>
        rw [hs] at h
        simp only [Option.bind_some] at h
        unfold ldN at h
        split at h
        · rename_i B hB
          split at h
          · rename_i hc
            simp only [Option.map_some, Option.some.injEq] at h; subst h
            obtain rfl := ha.ptr_inv hB hc.1
            obtain ⟨vs, h1, h2, h3⟩ := hr.row hB r.off n hc.2
            have hl := run_loadCells_list (P := P) w _ vs h2
            rw [h1] at hl
            refine ⟨_, .agg vs.toArray, rfl, ?_, ?_⟩
            · simp [loadVar, L2_ hu, aggD, Bj_ hs, hl]
            · refine .agg _ _ ?_ fun i c v hc' hv => h3 i c v hc' (by simpa using hv)
              simp [h1]; omega
          · cases h
        · cases h
    have cell_arm : ∀ d, P.underlying t = some d → aggD d = false → ldC H r = some z → ∃ ad v, a = .pointer (some ad) ∧ (loadVar t ad).run P w = .ok v w ∧ VR H μ z v := by
      intro d hu hd h
      unfold ldC at h
      split at h
      · rename_i B hB
        split at h
        · rename_i hc
          obtain rfl := ha.ptr_inv hB hc
          obtain ⟨v, h1, h2⟩ := hr.cell hB h
          refine ⟨_, v, rfl, ?_, h2⟩
          have := L2_ hu w
          rw [hd] at this
          simp [loadVar, this, h1]
        · cases h
      · cases h
    split at h
    · exact struct_arm _ (by assumption) h
    · cases h
    · rename_i d h1 h2 hu
      refine cell_arm d hu ?_ h
      cases d <;> first | rfl | (exact absurd rfl (h1 _)) | (exact absurd rfl (h2 _ _))
    · cases h
  · cases h
theorem Afp_ (hr : HR H μ w) {t : TypeId} {x z : AV} {a : Value} (ha : VR H μ x a) (h : loadA P H t x = some z) : OkV P H μ w (Instr.loadAt t a) z H := by
  obtain ⟨ad, v, rfl, h1, h2⟩ := V9_ hr ha h
  exact OkV.here hr (by simp [Instr.loadAt, Instr.sureAddr, h1]) h2
theorem Hd_ (vs : List AV) : ∀ (l : List AV) (o : Nat), (putAt l o vs).length = l.length := by
  induction vs with
  | nil => intro l o; rfl
  | cons v vs ih => intro l o; simp [putAt, ih]
theorem Qr_ (vs : List AV) : ∀ (l : List AV) (o i : Nat), o + vs.length ≤ l.length →
    (putAt l o vs)[i]? = if o ≤ i ∧ i < o + vs.length then vs[i - o]? else l[i]? := by
  induction vs with
  | nil => intro l o i h; simp [putAt]; intro h1 h2; omega
  | cons v vs ih =>
    intro l o i h
    simp only [List.length_cons] at h
    rw [putAt, ih _ _ _ (by simp; omega), List.getElem?_set]
    by_cases h1 : o + 1 ≤ i ∧ i < o + 1 + vs.length
    · rw [if_pos h1, if_pos (by simp; omega)]
      rw [show i - o = (i - (o + 1)) + 1 by omega]; simp
    · rw [if_neg h1]
      by_cases h2 : o = i
      · subst h2; rw [if_pos rfl, if_pos (by omega), if_pos (by simp)]; simp
      · rw [if_neg h2, if_neg (by simp; omega)]
theorem Ua_ {c : AV} (hl : A5_ H c = true) {v : Value} (h : VR H μ c v) : v.oneCell' = true := by
  cases c <;> simp [A5_] at hl
  · obtain rfl := h.bool_inv; rfl
  · obtain rfl := h.int_inv; rfl
  · obtain ⟨b, rfl, _⟩ := h.flt_inv; rfl
  · obtain rfl := h.str_inv; rfl
  · obtain rfl := h.nilptr_inv; rfl
  · obtain rfl := h.nilfn_inv; rfl
  · obtain ⟨B, hB, hv⟩ := Av_.1 hl
    obtain rfl := h.ptr_inv hB hv; rfl
  · obtain rfl := h.nilslc_inv; rfl
  · obtain ⟨B, hB, hv⟩ := Av_.1 hl
    obtain ⟨a, c, rfl⟩ := (h.slc_inv hB hv).slice; rfl
  · obtain ⟨vs, rfl, _⟩ := h.fn_inv; rfl
theorem Pd_ {x : AV} {cs : List AV} {v : Value} (h : x.cellsA = some cs) (ho : cs.all (A5_ H) = true) (hv : VR H μ x v) : VRs H μ cs v.cells := by
  have one : ∀ c, x = c → x.cellsA = some [c] → VRs H μ cs v.cells := by
    intro c hx hc
    rw [hc] at h; cases h
    have hk : A5_ H x = true := by subst hx; simpa using ho
    have h1 := Ua_ hk hv
    have h2 : v.cells = #[v] := by cases v <;> simp [Value.oneCell'] at h1 <;> rfl
    rw [h2]
    refine ⟨rfl, fun i c' v' hc' hv' => ?_⟩
    cases i with
    | zero => simp at hc' hv'; subst hc'; subst hv'; exact hx ▸ hv
    | succ i => simp at hc'
  cases x <;> first
    | (exact one _ rfl rfl)
    | (simp [AV.cellsA] at h; done)
    | skip
  simp only [AV.cellsA, Option.some.injEq] at h; subst h
  obtain ⟨vs, rfl, hvs⟩ := hv.agg_inv
  exact hvs
theorem Md_ {cs : List AV} {vs : Array Value} (ho : cs.all (A5_ H) = true) (h : VRs H μ cs vs) : ∀ v ∈ vs.toList, v.oneCell' = true := by
  intro v hv
  obtain ⟨i, hi⟩ := List.getElem?_of_mem hv
  rw [Array.getElem?_toList] at hi
  have hlt : i < cs.length := by
    rw [h.1]; exact (Array.getElem?_eq_some_iff.1 hi).1
  have hc := List.getElem?_eq_getElem hlt
  exact Ua_ (List.all_eq_true.1 ho _ (List.getElem_mem hlt)) (h.2 i _ v hc hi)
theorem HR.putRow (hr : HR H μ w) {id : Nat} {B : Blk} (hB : H[id]? = some B) (ho : B.own = true) (o : Nat) (news : List AV) (vs : List Value)
    (hlen : o + news.length ≤ B.cells.length) (hl : news.length = vs.length) (hv : ∀ (i : Nat) (c : AV) (v : Value), news[i]? = some c → vs[i]? = some v → VR H μ c v)
    (hf : B.flat = true → news.all AV.isFlat = true) :
    ∃ cur e fr, w.heap[μ.blk id]? = some (.cells cur e fr) ∧ Fz fr cur.size ∧ o + vs.length ≤ cur.size ∧
      HR (H.set id { B with cells := putAt B.cells o news }) μ (w.setRow (μ.blk id) (cur.toList.take o ++ vs ++ cur.toList.drop (o + vs.length)).toArray) ∧
      Adv H μ w (H.set id { B with cells := putAt B.cells o news }) μ (w.setRow (μ.blk id) (cur.toList.take o ++ vs ++ cur.toList.drop (o + vs.length)).toArray) := by
  obtain ⟨cur, e, fr, h1, h2, h3, h4, h5⟩ := hr.cells id B hB
  obtain ⟨hoff, hfr⟩ := h5 ho
  rw [hoff, Nat.zero_add] at h2
  have hsz : (cur.toList.take o ++ vs ++ cur.toList.drop (o + vs.length)).toArray.size = cur.size := by
    simp; omega
  refine ⟨cur, e, fr, h1, hfr, by omega, ?_⟩
  have hfr' : Fz fr (cur.toList.take o ++ vs ++ cur.toList.drop (o + vs.length)).toArray.size := by rw [hsz]; exact hfr
  refine hr.upd hB ho (B' := { B with cells := putAt B.cells o news }) ho rfl (by simp [Hd_]) (fun _ _ => ⟨rfl, rfl, rfl⟩) hoff (.inl rfl) (fun _ => ⟨rfl, rfl⟩)
    _ e (setRow_heap w _ cur _ e _ h1) (by rw [hsz]; exact h2) (by rw [hsz]; simp [Hd_]; omega) (fun b _ hne => setRow_other w _ b _ hne) ?_ rfl rfl rfl ?_ ?_
  · simp [World.setRow]
  · intro i c hc
    simp only at hc
    rw [Qr_ _ _ _ _ hlen] at hc
    have hcur : ∀ i, (cur.toList.take o ++ vs ++ cur.toList.drop (o + vs.length))[i]? = if o ≤ i ∧ i < o + vs.length then vs[i - o]? else cur[i]? := by
      intro i
      have ho' : (cur.toList.take o).length = o := by simp; omega
      by_cases hi : i < o
      · rw [List.append_assoc, List.getElem?_append_left (by omega), List.getElem?_take, if_pos hi, if_neg (by omega), Array.getElem?_toList]
      · rw [List.append_assoc, List.getElem?_append_right (by omega), ho']
        by_cases hi2 : i < o + vs.length
        · rw [List.getElem?_append_left (by omega), if_pos (by omega)]
        · rw [List.getElem?_append_right (by omega), List.getElem?_drop, if_neg (by omega), Array.getElem?_toList]
          congr 1; omega
    simp only [List.getElem?_toArray, hcur]
    split at hc
    · rename_i hi
      rw [if_pos (by omega)]
      have hlt : i - o < vs.length := by omega
      exact ⟨_, List.getElem?_eq_getElem hlt, hv _ _ _ hc (List.getElem?_eq_getElem hlt)⟩
    · rename_i hi
      rw [if_neg (by omega)]
      obtain ⟨v, k1, k2⟩ := h4 i c hc
      rw [hoff, Nat.zero_add] at k1
      exact ⟨v, k1, k2⟩
  · intro hfl c hc
    simp only at hfl hc
    obtain ⟨i, hi⟩ := List.getElem?_of_mem hc
    rw [Qr_ _ _ _ _ hlen] at hi
    split at hi
    · exact List.all_eq_true.1 (hf hfl) c (List.mem_of_getElem? hi)
    · exact hr.flat id B hB hfl c (List.mem_of_getElem? hi)
theorem An9_ (hr : HR H μ w) {t : TypeId} {x y : AV} {a v : Value} (ha : VR H μ x a) (hv : VR H μ y v) (h : Cx_ P H t x y = some H') :
    ∃ w', (Instr.storeAt t a v).run P w = .ok () w' ∧ HR H' μ w' ∧ Adv H μ w H' μ w' := by
  unfold Cx_ at h
  split at h
  · rename_i r
    cases hc : y.cellsA with
    | none => rw [hc] at h; cases h
    | some cs =>
      rw [hc] at h
      simp only [Option.bind_some] at h
      split at h
      · rename_i hs
        unfold stN at h
        split at h
        · rename_i B hB
          split at h
          · rename_i hk
            obtain ⟨k1, k2, k3, k4, k5⟩ := hk
            cases h
            obtain rfl := ha.ptr_inv hB k2
            have hcells := Pd_ hc k4 hv
            obtain ⟨cur, e, fr, g1, gf, g2, g3, g4⟩ := hr.putRow hB k1 r.off cs v.cells.toList k3 (by rw [hcells.1]; simp) (fun i c u hc' hu => hcells.2 i c u hc' (by simpa using hu)) k5
            refine ⟨_, ?_, g3, g4⟩
            have hst := Kd_ P (μ.blk r.id) r.off e fr v.cells.toList 0 cur w g1 gf (by simpa using g2) (Md_ k4 hcells)
            have hoff : μ.off r.id = 0 := ((hr.cells r.id B hB).choose_spec.choose_spec.choose_spec.2.2.2.2 k1).1
            simp only [Nat.add_zero] at hst
            rw [hcells.1] at hs
            simp [Instr.storeAt, Instr.sureAddr, storeVar, Bj_ hs, hoff, hst]
          · cases h
        · cases h
      · cases h
  · cases h
theorem Nv_ (hr : HR H μ w) {cs : List AV} {sz : Nat} {fl : Bool} {r : Ref} (h : newA H cs sz fl = some (r, H')) (vs : Array Value) (hv : VRs H μ cs vs) (e : TypeId) :
    r = ⟨H.length, 0, cs.length⟩ ∧ H' = H ++ [⟨cs, true, sz, fl⟩] ∧
    HR H' (μ.at H.length w.heap.size vs.size) (w.alloc (.cells vs e)) ∧ Adv H μ w H' (μ.at H.length w.heap.size vs.size) (w.alloc (.cells vs e)) := by
  unfold newA at h
  split at h
  · rename_i hf
    simp only [Option.some.injEq, Prod.mk.injEq] at h
    obtain ⟨rfl, rfl⟩ := h
    refine ⟨rfl, rfl, hr.new ⟨cs, true, sz, fl⟩ vs e rfl rfl rfl rfl (by rw [hv.1]; exact Nat.le_refl _) (fun i c hc => ?_) (fun hfl c hc => List.all_eq_true.1 (hf hfl) c hc)⟩
    have hlt : i < vs.size := by rw [← hv.1]; exact (List.getElem?_eq_some_iff.1 hc).1
    exact ⟨_, Array.getElem?_eq_getElem hlt, hv.2 i c _ hc (Array.getElem?_eq_getElem hlt)⟩
  · cases h
theorem Nt_ (H : Heap) (B : Blk) : (H ++ [B])[H.length]? = some B := by simp
end
end Go.Proofs.Ytmgpbchacndndaa.AM
