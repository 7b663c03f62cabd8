import Derived.Test.YtmgpbchacndndaaA7
set_option linter.unusedSimpArgs false
set_option linter.unusedVariables false
namespace Go.Proofs.Ytmgpbchacndndaa.AM
section
variable {P : Program} {H H' : Heap} {μ : Mem} {w : World}
theorem Dj_ {t e : TypeId} (h : elemA P t = some e) : P.underlying t = some (.slice e) := by
  unfold elemA at h
  split at h
  · cases h; assumption
  · cases h
theorem Ad3_ (hr : HR H μ w) {t : TypeId} {l c z : AV} {lv cv : Value} (hl : VR H μ l lv) (hc : VR H μ c cv) (h : makeA P H t l c = some (z, H')) :
    OkV P H μ w (Instr.makeSlice t lv cv) z H' := by
  unfold makeA at h
  cases he : elemA P t with
  | none => rw [he] at h; cases h
  | some e =>
  cases hi : P.info? e with
  | none => rw [he] at h; simp [hi] at h
  | some i =>
  cases hz : i.zero with
  | none => rw [he] at h; simp [hi, hz] at h
  | some zv =>
  rw [he] at h
  simp only [Option.bind_some, hi, hz] at h
  split at h
  · rename_i kl l kc c
    obtain rfl := hl.int_inv
    obtain rfl := hc.int_inv
    split at h
    · rename_i hk
      obtain ⟨k1, rfl, k3, k4, k5, k6⟩ := hk
      cases hn : newA H (zeroCells zv l.toNat) i.size (!i.hasPointers) with
      | none => rw [hn] at h; cases h
      | some rH =>
        obtain ⟨r, H1⟩ := rH
        rw [hn] at h
        simp only [Option.map_some, Option.some.injEq, Prod.mk.injEq] at h
        obtain ⟨rfl, rfl⟩ := h
        have hrun := run_make (P := P) w t e i zv (Dj_ he) hi hz kl kc l l k1 (Int.le_refl _) (by
          have : (i.bytes : Int) ≤ 1024 := by omega
          have h2 : (i.bytes : Int) * l ≤ 1024 * l := Int.mul_le_mul_of_nonneg_right this k1
          omega) (by omega)
        have hvs : VRs H μ (zeroCells zv l.toNat) (madeCells zv.cells (l.toNat * i.size)) := by
          refine ⟨by simp [size_madeCells, zeroCells, k6], fun j c v hc hv => ?_⟩
          have hj : j < l.toNat * i.size := by
            have := (List.getElem?_eq_some_iff.1 hc).1
            simpa [zeroCells, k6] using this
          unfold zeroCells at hc
          rw [List.getElem?_map, k6, List.getElem?_range hj, Option.map_some, Option.some.injEq] at hc
          subst hc
          simp only [madeCells, Array.getElem?_map, Array.getElem?_range] at hv
          rw [if_pos hj] at hv
          simp only [Option.map_some, Option.some.injEq] at hv
          subst hv
          rw [k6]
          have hlt : j % i.size < zv.cells.size := by rw [k6]; exact Nat.mod_lt _ (by omega)
          have : zv.cells[j % i.size]! = zv.cells.getD (j % i.size) undef := by
            simp [Array.getElem!_eq_getD, hlt]
          rw [this]
          exact VR.absC H μ _
        obtain ⟨rfl, rfl, g1, g2⟩ := Nv_ hr hn _ hvs e
        refine ⟨_, _, _, hrun, ?_, g1, g2⟩
        have hzl : (zeroCells zv l.toNat).length = l.toNat * i.size := by simp [zeroCells, k6]
        refine .slc _ _ _ _ (Nt_ H _) (by simp [hzl]) fun _ => ⟨by simp [hzl], .inl ⟨l.toNat, by simp [Mem.at], by simp [hzl], by simp only [Mem.at, if_true, size_madeCells, hzl, Nat.zero_add, Nat.le_refl]⟩⟩
    · cases h
  · cases h
theorem Td_ {s : TypeId} {f o : Nat} {ft : TypeId} (h : B3_ P s f = some (o, ft)) : ∃ fields fd, P.underlying s = some (.struct fields) ∧ fields[f]? = some fd ∧ fd.offset = o ∧ fd.type = ft := by
  unfold B3_ at h
  split at h
  · rename_i fields hu
    cases hf : fields[f]? with
    | none => rw [hf] at h; cases h
    | some fd =>
      rw [hf] at h
      simp only [Option.map_some, Option.some.injEq, Prod.mk.injEq] at h
      exact ⟨fields, fd, hu, hf, h.1, h.2⟩
  · cases h
theorem Aks_ (hr : HR H μ w) {s : TypeId} {x z : AV} {f : Nat} {xv : Value} (hx : VR H μ x xv) (h : Ck_ P H s x f = some z) :
    OkV P H μ w (Instr.fieldAt s xv f) z H := by
  unfold Ck_ at h
  split at h
  · rename_i r
    cases hf : B3_ P s f with
    | none => rw [hf] at h; cases h
    | some ot =>
      obtain ⟨o, ft⟩ := ot
      rw [hf] at h
      simp only [Option.bind_some] at h
      cases hs : szA P ft with
      | none => rw [hs] at h; cases h
      | some n =>
        rw [hs] at h
        simp only [Option.bind_some] at h
        split at h
        · cases h
        · rename_i hn
          split at h
          · rename_i hl
            cases h
            obtain ⟨B, hB, hv⟩ := Av_.1 hl
            obtain rfl := hx.ptr_inv hB hv
            obtain ⟨fields, fd, hu, hfd, rfl, rfl⟩ := Td_ hf
            refine OkV.here hr (v := .pointer (some ⟨μ.blk r.id, μ.off r.id + (r.off + fd.offset), none⟩)) ?_ (.ptr _ _ B hB (by simp; omega) (fun _ => rfl))
            simp [Instr.fieldAt, run_underlying hu, hfd, Instr.sureAddr, fieldPlace, Bj_ hs, hn, Id_, Nat.add_assoc]
          · cases h
  · cases h
theorem Afi_ {t : TypeId} {cs : List AV} {vs : Array Value} {off : Nat} {z : AV} (hvs : VRs H μ cs vs) (h : partA P t cs off = some z) :
    ∃ v, (∀ w, (part t vs off).run P w = .ok v w) ∧ VR H μ z v := by
  unfold partA at h
  split at h
  · rename_i fs hu
    cases hs : szA P t with
    | none => rw [hs] at h; cases h
    | some n =>
      rw [hs] at h
      simp only [Option.map_some, Option.some.injEq] at h; subst h
      refine ⟨.agg (vs.extract off (off + n)), fun w => by simp [part, L2_ hu, aggD, Bj_ hs], ?_⟩
      refine .agg _ _ (by simp [hvs.1]; omega) fun i c v hc hv => ?_
      rw [List.getElem?_take] at hc
      split at hc
      · rename_i hi
        rw [List.getElem?_drop] at hc
        rw [Array.getElem?_extract] at hv
        split at hv
        · exact hvs.2 _ c v hc hv
        · cases hv
      · cases hc
  · cases h
  · rename_i d h1 h2 hu
    have hd : aggD d = false := by cases d <;> first | rfl | (exact absurd rfl (h1 _)) | (exact absurd rfl (h2 _ _))
    have hlt : off < vs.size := by rw [← hvs.1]; exact (List.getElem?_eq_some_iff.1 h).1
    exact ⟨vs[off], fun w => by simp [part, L2_ hu, hd, hlt], hvs.2 off z _ h (Array.getElem?_eq_getElem hlt)⟩
  · cases h
theorem Adz_ (hr : HR H μ w) {s : TypeId} {x z : AV} {f : Nat} {xv : Value} (hx : VR H μ x xv) (h : H7_ P s x f = some z) : OkV P H μ w (Instr.field s xv f) z H := by
  unfold H7_ at h
  split at h
  · rename_i cs
    obtain ⟨vs, rfl, hvs⟩ := hx.agg_inv
    cases hf : B3_ P s f with
    | none => rw [hf] at h; cases h
    | some ot =>
      obtain ⟨o, ft⟩ := ot
      rw [hf] at h
      simp only [Option.bind_some] at h
      obtain ⟨fields, fd, hu, hfd, rfl, rfl⟩ := Td_ hf
      obtain ⟨v, h1, h2⟩ := Afi_ hvs h
      exact OkV.here hr (by simp [Instr.field, run_underlying hu, hfd, asAgg, h1]) h2
  · cases h
theorem Acx_ (hr : HR H μ w) {t : TypeId} {x ix z : AV} {xv iv : Value} (hx : VR H μ x xv) (hi : VR H μ ix iv) (h : B1_ P H t x ix = some z) :
    OkV P H μ w (Instr.indexAt t xv iv) z H := by
  unfold B1_ at h
  split at h
  · rename_i r n k i
    obtain rfl := hi.int_inv
    cases he : elemA P t with
    | none => rw [he] at h; cases h
    | some e =>
      cases hs : szA P e with
      | none => rw [he] at h; simp [hs] at h
      | some sz =>
        rw [he] at h
        simp only [Option.bind_some, hs] at h
        split at h
        · rename_i B hB
          split at h
          · rename_i hk
            obtain ⟨k1, k2, k3, k4⟩ := hk
            cases h
            obtain ⟨q1, q2⟩ := hx.slc_inv hB k1
            rcases q2 with ⟨c, rfl, q3, q4⟩ | ⟨rfl, _, _⟩
            · refine OkV.here hr (v := .pointer (some ⟨μ.blk r.id, μ.off r.id + (r.off + i.toNat * sz), none⟩)) ?_ (.ptr _ _ B hB (by simp; omega) (fun _ => rfl))
              simp [Instr.indexAt, asIntOf, run_underlying (Dj_ he), k3, k4, Bj_ hs, Id_, Nat.add_assoc]
            · omega
          · cases h
        · cases h
  · cases h
theorem Anm_ (hr : HR H μ w) {t : TypeId} {x ix z : AV} {xv iv : Value} (hx : VR H μ x xv) (hi : VR H μ ix iv) (h : Fa_ P t x ix = some z) :
    OkV P H μ w (Instr.index t xv iv) z H := by
  unfold Fa_ at h
  split at h
  · rename_i s k i hu
    obtain rfl := hi.int_inv
    obtain rfl := hx.str_inv
    split at h
    · rename_i b hb
      cases h
      refine OkV.here hr ?_ (VR.int _ _)
      simp [Instr.index, asIntOf, run_underlying hu, hb]
    · cases h
  · cases h
theorem Ey_ {k : IntKind} {i : Int} {y : Nat} {code : BoundsCode} (h0 : 0 ≤ i) (h1 : i ≤ y) (w : World) : (Instr.sliceBound (.int k i) y code).run P w = .ok i.toNat w := by
  simp [Instr.sliceBound, asIntOf, h0, h1]
theorem M3_ (isS : Bool) (len cap : Nat) (lo hi : Option Value) (l h : Int) (hlo : (lo = none ∧ l = 0) ∨ ∃ k, lo = some (.int k l)) (hhi : (hi = none ∧ h = len) ∨ ∃ k, hi = some (.int k h))
    (h0 : 0 ≤ l) (h1 : l ≤ h) (h2 : h ≤ cap) (w : World) : (Instr.sliceBounds isS len cap lo hi none).run P w = .ok (l.toNat, h.toNat, cap) w := by
  rcases hlo with ⟨rfl, rfl⟩ | ⟨k, rfl⟩ <;> rcases hhi with ⟨rfl, rfl⟩ | ⟨k', rfl⟩
  · simp [Instr.sliceBounds]
  · simp [Instr.sliceBounds, Ey_ (P := P) (by omega) h2]
  · simp [Instr.sliceBounds, Ey_ (P := P) h0 h1]
  · have : l ≤ (h.toNat : Int) := by omega
    simp [Instr.sliceBounds, Ey_ (P := P) (by omega) h2, Ey_ (P := P) h0 this]
theorem Cz_ {o : Option AV} {ov : Option Value} (hov : ∀ x, o = some x → ∃ v, ov = some v ∧ VR H μ x v) (hnone : o = none → ov = none) {d l : Int}
    (h : intOr d o = some l) : (ov = none ∧ l = d) ∨ ∃ k, ov = some (.int k l) := by
  cases o with
  | none => simp [intOr] at h; exact .inl ⟨hnone rfl, h.symm⟩
  | some x =>
    cases x <;> simp [intOr] at h
    subst h
    obtain ⟨v, hv, hr⟩ := hov _ rfl
    obtain rfl := hr.int_inv
    exact .inr ⟨_, hv⟩
theorem Z7_ (hr : HR H μ w) {t : TypeId} {x z : AV} {lo hi : Option AV} {xv : Value} {lov hiv : Option Value} (hx : VR H μ x xv)
    (hlo : ∀ y, lo = some y → ∃ v, lov = some v ∧ VR H μ y v) (hlo0 : lo = none → lov = none) (hhi : ∀ y, hi = some y → ∃ v, hiv = some v ∧ VR H μ y v) (hhi0 : hi = none → hiv = none)
    (h : Cg_ P H t x lo hi = some z) : OkV P H μ w (Instr.sliceAt t xv lov hiv none) z H := by
  unfold Cg_ at h
  split at h
  · rename_i e hu
    obtain rfl := hx.nilslc_inv
    split at h
    · rename_i l hh hl0 hh0
      split at h
      · rename_i hk
        obtain ⟨k1, rfl, rfl⟩ := hk
        cases h
        obtain ⟨sz, hs⟩ := Option.isSome_iff_exists.1 k1
        have hb := M3_ (P := P) true 0 0 lov hiv 0 0 (Cz_ hlo hlo0 hl0) (Cz_ hhi hhi0 hh0) (by omega) (by omega) (by omega) w
        refine OkV.here hr (v := .slice none 0 0) ?_ VR.nilslc
        simp [Instr.sliceAt, Instr.slice, run_underlying hu, hb, Bj_ hs]
      · cases h
    · cases h
  · rename_i e r n hu
    split at h
    case h_2 => cases h
    rename_i B hB
    split at h
    · rename_i l hh hl0 hh0
      split at h
      · rename_i hk
        obtain ⟨k1, k2, k6, k3, k4, k5⟩ := hk
        cases h
        have hok := hx.slc_inv hB k1
        have hq1 := hok.1
        have k7 : r.off + hh.toNat * B.sz ≤ B.cells.length := by
          rcases k5 with h | h
          · have := Nat.mul_le_mul_right B.sz (show hh.toNat ≤ n by omega)
            omega
          · exact h
        have hpos : 0 < B.sz := Nat.pos_of_ne_zero k6
        have hsub : (hh.toNat - l.toNat) * B.sz = hh.toNat * B.sz - l.toNat * B.sz := Nat.sub_mul _ _ _
        have hlh : l.toNat * B.sz ≤ hh.toNat * B.sz := Nat.mul_le_mul_right _ (by omega)
        rcases hok.2 with ⟨c, rfl, q1, q2⟩ | ⟨rfl, q1, a, rfl⟩
        · have hhc : hh.toNat ≤ c := Nat.le_of_mul_le_mul_right (show hh.toNat * B.sz ≤ c * B.sz by omega) hpos
          have hb := M3_ (P := P) true n c lov hiv l hh (Cz_ hlo hlo0 hl0) (Cz_ hhi hhi0 hh0) k3 k4 (by omega) w
          by_cases hcl : c = l.toNat
          · -- the empty slice at the end of the array: the address is the old one
            have hh' : hh.toNat = l.toNat := by omega
            refine OkV.here hr (v := .slice (some ⟨μ.blk r.id, μ.off r.id + r.off, none⟩) 0 0) ?_ (.slc _ _ _ B hB (by simp; omega) fun _ => ⟨?_, .inr ⟨by omega, ?_, _, rfl⟩⟩)
            · rw [hcl] at hb ⊢; simp [Instr.sliceAt, Instr.slice, run_underlying hu, hb, Bj_ k2, hh']
            · simp only; omega
            · simp only; rw [hcl] at q1; omega
          · refine OkV.here hr (v := .slice (some ⟨μ.blk r.id, μ.off r.id + (r.off + l.toNat * B.sz), none⟩) (hh.toNat - l.toNat) (c - l.toNat)) ?_ (.slc _ _ _ B hB (by simp; omega) fun _ => ⟨?_, .inl ⟨c - l.toNat, rfl, ?_, ?_⟩⟩)
            · simp [Instr.sliceAt, Instr.slice, run_underlying hu, hb, Bj_ k2, hcl, Id_, Nat.add_assoc]
            · simp only; omega
            · have : (c - l.toNat) * B.sz = c * B.sz - l.toNat * B.sz := Nat.sub_mul _ _ _
              have h5 : l.toNat * B.sz ≤ c * B.sz := Nat.mul_le_mul_right _ (by omega)
              simp only; omega
            · have : (c - l.toNat) * B.sz = c * B.sz - l.toNat * B.sz := Nat.sub_mul _ _ _
              have h5 : l.toNat * B.sz ≤ c * B.sz := Nat.mul_le_mul_right _ (by omega)
              simp only; omega
        · have hz : hh.toNat = 0 := by
            have : hh.toNat * B.sz = 0 := by omega
            rcases Nat.mul_eq_zero.1 this with h | h
            · exact h
            · exact absurd h k6
          have hb := M3_ (P := P) true 0 0 lov hiv l hh (Cz_ hlo hlo0 hl0) (Cz_ hhi hhi0 hh0) k3 k4 (by omega) w
          have hl' : l.toNat = 0 := by omega
          refine OkV.here hr (v := .slice (some a) 0 0) ?_ (.slc _ _ _ B hB (by simp; omega) fun _ => ⟨?_, .inr ⟨by omega, ?_, _, rfl⟩⟩)
          · simp [Instr.sliceAt, Instr.slice, run_underlying hu, hb, Bj_ k2, hl', hz]
          · simp only; omega
          · simp only; omega
      · cases h
    · cases h
  · rename_i s hu
    obtain rfl := hx.str_inv
    split at h
    · rename_i l hh hl0 hh0
      split at h
      · rename_i hk
        obtain ⟨k3, k4, k5⟩ := hk
        cases h
        have hb := M3_ (P := P) false s.size s.size lov hiv l hh (Cz_ hlo hlo0 hl0) (Cz_ hhi hhi0 hh0) k3 k4 k5 w
        refine OkV.here hr ?_ (VR.str _)
        simp [Instr.sliceAt, Instr.slice, run_underlying hu, hb]
      · cases h
    · cases h
  · cases h
theorem Agz_ (hr : HR H μ w) {t : TypeId} {x m : AV} {lo hi : Option AV} {xv mv : Value} {lov hiv : Option Value} {u : Unit} (hx : VR H μ x xv)
    (hlo : ∀ y, lo = some y → ∃ v, lov = some v ∧ VR H μ y v) (hlo0 : lo = none → lov = none) (hhi : ∀ y, hi = some y → ∃ v, hiv = some v ∧ VR H μ y v) (hm : VR H μ m mv)
    (h : I3_ P H t x lo hi m = some u) : OkV P H μ w (Instr.sliceAt t xv lov hiv (some mv)) .top H := by
  unfold I3_ at h
  split at h
  · rename_i e r n k1 hh k2 k hu
    obtain rfl := hm.int_inv
    obtain ⟨hv, rfl, hhv⟩ := hhi _ rfl
    obtain rfl := hhv.int_inv
    split at h
    · rename_i B l hB hl0
      split at h
      · rename_i hk
        obtain ⟨j1, j2, j3, j4, j5, j6, j7⟩ := hk
        have hok := hx.slc_inv hB j1
        have hpos : 0 < B.sz := Nat.pos_of_ne_zero j3
        have hl := Cz_ hlo hlo0 hl0
        have bnd : ∀ (n c : Nat), k.toNat ≤ c → (Instr.sliceBounds true n c lov (some (.int k1 hh)) (some (.int k2 k))).run P w = .ok (l.toNat, hh.toNat, k.toNat) w := by
          intro n c hc
          have b1 : ∀ code, (Instr.sliceBound (.int k2 k) c code).run P w = .ok k.toNat w := fun code => Ey_ (P := P) (by omega) (by omega) w
          have b2 : ∀ code, (Instr.sliceBound (.int k1 hh) k.toNat code).run P w = .ok hh.toNat w := fun code => Ey_ (P := P) (by omega) (by omega) w
          rcases hl with ⟨rfl, rfl⟩ | ⟨k3, rfl⟩
          · simp [Instr.sliceBounds, b1, b2]
          · have b3 : ∀ code, (Instr.sliceBound (.int k3 l) hh.toNat code).run P w = .ok l.toNat w := fun code => Ey_ (P := P) (by omega) (by omega) w
            simp [Instr.sliceBounds, b1, b2, b3]
        rcases hok.2 with ⟨c, rfl, q1, q2⟩ | ⟨rfl, q1, a, rfl⟩
        · have hkc : k.toNat ≤ c := Nat.le_of_mul_le_mul_right (show k.toNat * B.sz ≤ c * B.sz by omega) hpos
          exact OkV.here hr (by simp [Instr.sliceAt, Instr.slice, run_underlying hu, bnd n c hkc, Bj_ j2]; rfl) (VR.top _)
        · have hz : k.toNat = 0 := by
            have : k.toNat * B.sz = 0 := by omega
            rcases Nat.mul_eq_zero.1 this with h | h
            · exact h
            · exact absurd h j3
          exact OkV.here hr (by simp [Instr.sliceAt, Instr.slice, run_underlying hu, bnd 0 0 (by omega), Bj_ j2]; rfl) (VR.top _)
      · cases h
    · cases h
  · cases h
end
end Go.Proofs.Ytmgpbchacndndaa.AM
