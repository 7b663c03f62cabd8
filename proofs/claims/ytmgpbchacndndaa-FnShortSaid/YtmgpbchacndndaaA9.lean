import Derived.Test.YtmgpbchacndndaaA8
set_option linter.unusedSimpArgs false
set_option linter.unusedVariables false
namespace Go.Proofs.Ytmgpbchacndndaa.AM
section
variable {P : Program} {H H' : Heap} {μ : Mem} {w : World}
theorem VRs.set {cs : List AV} {vs : Array Value} (h : VRs H μ cs vs) (d : Nat) {x : AV} {v : Value} (hv : VR H μ x v) : VRs H μ (cs.set d x) (vs.setIfInBounds d v) := by
  refine ⟨by simp [h.1], fun i c u hc hu => ?_⟩
  rw [List.getElem?_set] at hc
  rw [Array.getElem?_setIfInBounds] at hu
  by_cases hd : d = i
  · subst hd
    rw [if_pos rfl] at hc hu
    have hlt : d < cs.length := by
      rcases Nat.lt_or_ge d cs.length with h | h
      · exact h
      · rw [if_neg (by omega)] at hc; cases hc
    have ht : d < vs.size := by rw [← h.1]; exact hlt
    rw [if_pos hlt] at hc
    rw [if_pos ht] at hu
    cases hc; cases hu; exact hv
  · rw [if_neg hd] at hc hu
    exact h.2 i c u hc hu
theorem Wz_ (off : Nat) : ∀ (L : List Value) (k : Nat) (vs : List AV) (l : List AV) (a : Array Value), VRs H μ l a → VRs H μ vs L.toArray →
    VRs H μ (putAt l (off + k) vs) ((L.zipIdx k).foldl (fun cs p => cs.setIfInBounds (off + p.2) p.1) a)
  | [], k, vs, l, a, ha, hv => by
    have : vs = [] := List.eq_nil_of_length_eq_zero (by simpa using hv.1)
    subst this; exact ha
  | c :: L, k, vs, l, a, ha, hv => by
    cases vs with
    | nil => have := hv.1; simp at this
    | cons v vs =>
      have h0 := hv.2 0 v c rfl (by simp)
      have ht : VRs H μ vs L.toArray := ⟨by have := hv.1; simpa using this, fun i c' u hc hu => hv.2 (i + 1) c' u (by simpa using hc) (by simpa using hu)⟩
      have := Wz_ off L (k + 1) vs (l.set (off + k) v) (a.setIfInBounds (off + k) c) (ha.set _ h0) ht
      simpa [putAt, List.zipIdx_cons, Nat.add_assoc] using this
theorem Rk_ {place : Nat → Option (Nat × Nat)} {place' : Nat → Option (Nat × Nat)} (hp : ∀ i q, place i = some q → place' i = some q) :
    ∀ (parts : List (Nat × AV)) (parts' : List (Nat × Value)) (cells : List AV) (cells' : Array Value) (cs : List AV), VRs H μ cells cells' → parts.length = parts'.length →
    (∀ (i : Nat) (p : Nat × AV) (p' : Nat × Value), parts[i]? = some p → parts'[i]? = some p' → p.1 = p'.1 ∧ VR H μ p.2 p'.2) → fillA H place cells parts = some cs →
    ∃ cs', Instr.fill place' cells' parts' = some cs' ∧ VRs H μ cs cs'
  | [], [], cells, cells', cs, hc, _, _, h => by simp [fillA] at h; subst h; exact ⟨cells', rfl, hc⟩
  | [], _ :: _, _, _, _, _, hl, _, _ => by simp at hl
  | _ :: _, [], _, _, _, _, hl, _, _ => by simp at hl
  | (i, v) :: rest, (i', v') :: rest', cells, cells', cs, hc, hl, hps, h => by
    obtain ⟨he, hv⟩ := hps 0 (i, v) (i', v') rfl rfl
    simp only at he hv
    subst he
    simp only [fillA] at h
    split at h
    · rename_i off size vs hpl hca
      split at h
      · rename_i hk
        obtain ⟨k1, k2, k3⟩ := hk
        have hcells := Pd_ hca k3 hv
        have hsz : v'.cells.size = size := by rw [← hcells.1]; exact k1
        have hb : ¬ (off + size > cells'.size) := by rw [← hc.1]; omega
        obtain ⟨cs', h1, h2⟩ := Rk_ hp rest rest' (putAt cells off vs) (v'.cells.toList.zipIdx.foldl (fun cs p => cs.setIfInBounds (off + p.2) p.1) cells') cs
          (by have := Wz_ (H := H) (μ := μ) off v'.cells.toList 0 vs cells cells' hc (by simpa using hcells); simpa using this)
          (by simpa using hl) (fun j p p' hp1 hp2 => hps (j + 1) p p' (by simpa using hp1) (by simpa using hp2)) h
        refine ⟨cs', ?_, h2⟩
        rw [Instr.fill, hp _ _ hpl]
        simp only [hsz, ne_eq, not_true_eq_false, decide_false, Bool.false_or, decide_eq_true_eq, hb, if_false]
        rw [← h1, ← Array.foldl_toList, Array.toList_zipIdx]
        simp only [Bool.false_eq_true, if_false]
      · cases h
    · cases h
theorem Wh_ : ∀ (fs : List Field), (fs.all fun f => (szA P f.type).isSome) = true →
    ∀ w, (fs.mapM fun f => (do pure (f.offset, ← sizeOf f.type) : Sem (Nat × Nat))).run P w = .ok (fs.map fun f => (f.offset, (szA P f.type).getD 0)) w
  | [], _, w => by simp
  | f :: fs, h, w => by
    simp only [List.all_cons, Bool.and_eq_true] at h
    obtain ⟨n, hn⟩ := Option.isSome_iff_exists.1 h.1
    have ih := Wh_ fs h.2
    simp only [List.mapM_cons, Sem.run_bind, Bj_ hn, Result.andThen_ok, Sem.run_map, ih]
    simp [Bj_ hn, hn, ih]
theorem Wb_ {t : TypeId} {z : AV} (h : zeroA P t = some z) (w : World) : ∃ v, (zeroValue t).run P w = .ok v w ∧ z = absV v := by
  unfold zeroA at h
  cases hi : P.info? t with
  | none => rw [hi] at h; cases h
  | some i =>
    cases hz : i.zero with
    | none => rw [hi] at h; simp [hz] at h
    | some v =>
      rw [hi] at h
      simp [hz] at h
      exact ⟨v, by simp [zeroValue, typeInfo, hi, hz], h.symm⟩
theorem Adb_ {v : Value} {cs : List AV} (h : (absV v).cellsA = some cs) (hv : ∀ vs, v ≠ .tuple vs) : VRs H μ cs v.cells := by
  have one : ∀ v : Value, v.cells = #[v] → (absC v).cellsA = some [absC v] ∨ (absC v).cellsA = none → (absC v).cellsA = some cs → VRs H μ cs v.cells := by
    intro v hc h1 h2
    rcases h1 with h1 | h1
    · rw [h1] at h2; cases h2
      rw [hc]
      refine ⟨rfl, fun i c u hc hu => ?_⟩
      cases i with
      | zero => simp at hc hu; subst hc; subst hu; exact VR.absC H μ _
      | succ i => simp at hc
    · rw [h1] at h2; cases h2
  have hk : ∀ v : Value, (∀ cs, v ≠ .agg cs) → v.cells = #[v] := fun v h => by cases v <;> first | rfl | (exact absurd rfl (h _))
  have hd : ∀ v : Value, (absC v).cellsA = some [absC v] ∨ (absC v).cellsA = none := fun v => by
    unfold absC; split <;> simp [AV.cellsA]
  cases v with
  | agg vs =>
    simp only [absV, AV.cellsA, Option.some.injEq] at h
    subst h
    refine ⟨by simp [Value.cells], fun i c u hc hu => ?_⟩
    rw [List.getElem?_map, Array.getElem?_toList] at hc
    simp only [Value.cells] at hu
    rw [hu] at hc
    cases hc
    exact VR.absC H μ u
  | _ => exact one _ (hk _ (by simp)) (hd _) (by simpa [absV] using h)
theorem Uf_ {v : Value} {cs : List AV} (h : (absV v).cellsA = some cs) : VRs H μ cs v.cells := by
  cases v with
  | tuple vs => simp [absV, absC, AV.cellsA] at h
  | _ => exact Adb_ h (by simp)
theorem Aie_ (hr : HR H μ w) {t : TypeId} {parts : List (Nat × AV)} {parts' : Array (Nat × Value)} {z : AV} (hl : parts.length = parts'.size)
    (hps : ∀ (i : Nat) (p : Nat × AV) (p' : Nat × Value), parts[i]? = some p → parts'[i]? = some p' → p.1 = p'.1 ∧ VR H μ p.2 p'.2) (h : F8_ P H t parts = some z) :
    OkV P H μ w (Instr.build t parts') z H := by
  unfold F8_ at h
  split at h
  · rename_i fs hu
    split at h
    · rename_i hall
      cases hz : zeroA P t with
      | none => rw [hz] at h; cases h
      | some zv =>
        rw [hz] at h
        simp only [Option.bind_some] at h
        cases hc : zv.cellsA with
        | none => rw [hc] at h; cases h
        | some zc =>
          rw [hc] at h
          simp only [Option.bind_some] at h
          cases hf : fillA H (Ev_ P t) zc parts with
          | none => rw [hf] at h; cases h
          | some cs =>
            rw [hf] at h
            simp only [Option.map_some, Option.some.injEq] at h
            subst h
            obtain ⟨v, hv, rfl⟩ := Wb_ hz w
            obtain ⟨cs', h1, h2⟩ := Rk_ (H := H) (μ := μ) (place := Ev_ P t) (place' := fun i : Nat => (fs.map fun f => (f.offset, (szA P f.type).getD 0))[i]?) (fun i q hq => by
              unfold Ev_ B3_ at hq
              rw [hu] at hq
              simp only at hq
              rw [Array.getElem?_map]
              cases hfi : fs[i]? with
              | none => rw [hfi] at hq; cases hq
              | some f =>
                rw [hfi] at hq
                simp only [Option.map_some, Option.bind_some] at hq
                cases hs : szA P f.type with
                | none => rw [hs] at hq; cases hq
                | some n => rw [hs] at hq; simp at hq; simp [hs, hq]) parts parts'.toList zc v.cells cs (Uf_ hc) (by simpa using hl) (fun i p p' hp hp' => hps i p p' hp (by simpa using hp')) hf
            refine OkV.here hr (v := .agg cs') ?_ ?_
            · unfold Instr.build
              simp only [Sem.run_bind, hv, Result.andThen_ok, run_underlying hu]
              rw [Array.mapM_eq_mapM_toList]
              simp only [Sem.run_map, Wh_ _ hall, Result.andThen_ok]
              have e : (fun i : Nat => ((fs.toList.map fun f => (f.offset, (szA P f.type).getD 0)).toArray)[i]?) = fun i : Nat => (fs.map fun f => (f.offset, (szA P f.type).getD 0))[i]? := by
                funext i; simp
              simp only [e, h1]
              rfl
            · exact .agg _ _ h2.1 h2.2
    · cases h
  · cases h
theorem Ajb_ (hr : HR H μ w) {t : TypeId} {len : Nat} {parts : List (Nat × AV)} {parts' : Array (Nat × Value)} {cs : List AV} {sz : Nat} {fl : Bool} {r : Ref} (hl : parts.length = parts'.size)
    (hps : ∀ (i : Nat) (p : Nat × AV) (p' : Nat × Value), parts[i]? = some p → parts'[i]? = some p' → p.1 = p'.1 ∧ VR H μ p.2 p'.2) (h : Bq_ P H t len parts = some (cs, sz, fl))
    (hn : newA H cs sz fl = some (r, H')) : OkV P H μ w (Instr.buildSlice t len parts') (.slc r len) H' := by
  unfold Bq_ at h
  cases he : elemA P t with
  | none => rw [he] at h; cases h
  | some e =>
  cases hi : P.info? e with
  | none => rw [he] at h; simp [hi] at h
  | some i =>
  cases hz : i.zero with
  | none => rw [he] at h; simp [hi, hz] at h
  | some zv =>
  rw [he] at h
  simp only [Option.bind_some, hi, hz] at h
  split at h
  · rename_i hk
    obtain ⟨k1, k2⟩ := hk
    cases hf : fillA H (fun j => some (j * i.size, i.size)) (List.replicate (len * i.size) .top) parts with
    | none => rw [hf] at h; cases h
    | some cs0 =>
      rw [hf] at h
      simp only [Option.map_some, Option.some.injEq, Prod.mk.injEq] at h
      obtain ⟨rfl, rfl, rfl⟩ := h
      have hlen : cs0.length = len * i.size := by
        have : ∀ (parts : List (Nat × AV)) (cells cs : List AV), fillA H (fun j => some (j * i.size, i.size)) cells parts = some cs → cs.length = cells.length := by
          intro parts
          induction parts with
          | nil => intro cells cs h; simp [fillA] at h; rw [h]
          | cons p rest ih =>
            intro cells cs h
            obtain ⟨a, b⟩ := p
            simp only [fillA] at h
            split at h
            · split at h
              · rw [ih _ _ h, Hd_]
              · cases h
            · cases h
        rw [this _ _ _ hf]; simp
      obtain ⟨cs', h1, h2⟩ := Rk_ (H := H) (μ := μ) (place := fun j => some (j * i.size, i.size)) (place' := fun j => some (j * i.size, i.size)) (fun _ _ h => h) parts parts'.toList
        (List.replicate (len * i.size) .top) ((Array.range (len * i.size)).map ((if len * i.size = 0 then #[] else zv.cells)[· % (if len * i.size = 0 then #[] else zv.cells).size]!)) cs0
        ⟨by simp, fun j c v hc _ => by
          rw [List.getElem?_replicate] at hc
          split at hc
          · cases hc; exact .top v
          · cases hc⟩ (by simpa using hl) (fun i p p' hp hp' => hps i p p' hp (by simpa using hp')) hf
      obtain ⟨rfl, rfl, g1, g2⟩ := Nv_ hr hn cs' h2 e
      have hsz : cs'.size = len * i.size := by rw [← h2.1]; exact hlen
      refine ⟨.slice (some ⟨w.heap.size, 0, none⟩) len len, _, _, ?_, ?_, g1, g2⟩
      · unfold Instr.buildSlice
        have hs : szA P e = some i.size := by simp [szA, hi]
        have hbig : ¬ (len * i.size > 2 ^ 24) := by simp; omega
        simp only [Sem.run_bind, run_underlying (Dj_ he), Result.andThen_ok, Bj_ hs, hbig, if_false]
        by_cases h0 : len * i.size = 0
        · simp only [h0, if_true] at h1 ⊢
          simp only [Array.range_zero', Array.map_empty] at h1 ⊢
          simp [Array.range_zero', h1, newRow]
        · simp only [h0, if_false] at h1 ⊢
          simp [zeroValue, typeInfo, hi, hz, h1, newRow]
      · refine .slc _ _ _ _ (Nt_ H _) (by simp) fun _ => ⟨by simp [hlen], .inl ⟨len, by simp [Mem.at], by simp [hlen], by simp [Mem.at, hsz]⟩⟩
  · cases h
end
end Go.Proofs.Ytmgpbchacndndaa.AM
