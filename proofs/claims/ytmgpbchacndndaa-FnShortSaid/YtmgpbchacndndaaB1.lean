import Derived.Test.YtmgpbchacndndaaA9
set_option linter.unusedSimpArgs false
set_option linter.unusedVariables false
namespace Go.Proofs.Ytmgpbchacndndaa.AM
def FnOk (P : Program) (f : FuncId) (args : List AV) (H : Heap) (r : AV) (H' : Heap) : Prop :=
  ∀ (μ : Mem) (w : World) (cargs : Array Value), HR H μ w → VRs H μ args cargs →
    ((callFunc f cargs).run P w = .ok (.enter f cargs) w ∧ Calls P f cargs w (fun e w' => ∃ v μ', e = .returned v ∧ VR H' μ' r v ∧ HR H' μ' w' ∧ Adv H μ w H' μ' w')) ∨
    (∃ v w' μ', (callFunc f cargs).run P w = .ok (.value v) w' ∧ VR H' μ' r v ∧ HR H' μ' w' ∧ Adv H μ w H' μ' w')
def Eo_ (P : Program) (O : A0_) : Prop := ∀ f args H r H', O f args H = some (r, H') → FnOk P f args H r H'
section
variable {P : Program} {H H' : Heap} {μ : Mem} {w : World}
theorem Aps_ (hr : HR H μ w) {x y z : AV} {a b : Value} (ha : VR H μ x a) (hb : VR H μ y b) (h : max2A x y = some z) : OkV P H μ w (Builtin.max2 a b) z H := by
  unfold max2A at h
  split at h
  · obtain rfl := ha.int_inv
    obtain rfl := hb.int_inv
    cases h
    exact OkV.here hr rfl (VR.int _ _)
  · split at h
    · rename_i hk; subst hk
      rename_i k x0 y0
      obtain ⟨b1, rfl, rfl⟩ := ha.flt_inv
      obtain ⟨b2, rfl, rfl⟩ := hb.flt_inv
      rw [Um_] at h
      cases ho : k.format.order b1 b2 with
      | none =>
        rw [ho] at h
        simp only [Option.some.injEq] at h
        subst h
        have := Ag5_ k true b1 b2 (w.tape w.drawn (.nanMinMax k true b1 b2))
        refine OkV.drew hr (v := .float k _) (w' := w.drew) (by simp [Builtin.max2, ho, Pp_, Question.forced]) (Cm_ this ▸ VR.flt k _) rfl rfl rfl rfl
      | some c =>
        rw [ho] at h
        cases c <;> simp only [Option.some.injEq] at h <;> subst h
        · exact OkV.here hr (by simp [Builtin.max2, ho]) (VR.flt k _)
        · have hn : (k.decode (canon k b1)).neg = (k.decode b1).neg := by
            rcases E0_ k b1 with ⟨s, f, s', f', e1, e2⟩ | hb
            · exfalso
              have : k.format.order b1 b2 = (k.decode b1).order (k.decode b2) := rfl
              rw [this, e1] at ho
              cases k.decode b2 <;> simp [Ieee.Datum.order] at ho
            · rw [hb]
          rw [hn]
          refine OkV.here hr (v := .float k (if (k.decode b1).neg = true then b2 else b1)) (by simp [Builtin.max2, ho]) ?_
          split <;> exact VR.flt k _
        · exact OkV.here hr (by simp [Builtin.max2, ho]) (VR.flt k _)
    · cases h
  · cases h
theorem Ah4_ (hr : HR H μ w) {x y z : AV} {a b : Value} (ha : VR H μ x a) (hb : VR H μ y b) (h : min2A x y = some z) : OkV P H μ w (Builtin.min2 a b) z H := by
  unfold min2A at h
  split at h
  · obtain rfl := ha.int_inv
    obtain rfl := hb.int_inv
    cases h
    exact OkV.here hr rfl (VR.int _ _)
  · cases h
theorem Rn_ (F : AV → AV → Option AV) (G : Value → Value → Sem Value)
    (hFG : ∀ {μ : Mem} {w : World} {x y z : AV} {a b : Value}, HR H μ w → VR H μ x a → VR H μ y b → F x y = some z → OkV P H μ w (G a b) z H) :
    ∀ (rest : List AV) (rest' : List Value) (μ : Mem) (w : World) (x z : AV) (a : Value), HR H μ w → VR H μ x a → VRs H μ rest rest'.toArray → rest.foldlM F x = some z →
      OkV P H μ w (rest'.foldlM G a) z H
  | [], [], μ, w, x, z, a, hr, ha, _, h => by simp at h; subst h; exact OkV.here hr rfl ha
  | [], _ :: _, _, _, _, _, _, _, _, hl, _ => by have := hl.1; simp at this
  | _ :: _, [], _, _, _, _, _, _, _, hl, _ => by have := hl.1; simp at this
  | y :: rest, b :: rest', μ, w, x, z, a, hr, ha, hl, h => by
    rw [List.foldlM_cons] at h
    cases h1 : F x y with
    | none => rw [h1] at h; cases h
    | some x1 =>
      rw [h1] at h
      obtain ⟨v, w1, μ1, r1, r2, r3, r4⟩ := hFG hr ha (hl.2 0 y b rfl (by simp)) h1
      have hl' : VRs H μ1 rest rest'.toArray := VRs.adv r4 ⟨by have := hl.1; simpa using this, fun i c u hc hu => hl.2 (i + 1) c u (by simpa using hc) (by simpa using hu)⟩
      obtain ⟨v2, w2, μ2, s1, s2, s3, s4⟩ := Rn_ F G hFG rest rest' μ1 w1 x1 z v r3 r2 hl' h
      refine ⟨v2, w2, μ2, ?_, s2, s3, r4.trans s4⟩
      rw [List.foldlM_cons, Sem.run_bind, r1]
      exact s1
theorem VRs.one {x : AV} {vs : Array Value} (h : VRs H μ [x] vs) : ∃ v, vs = #[v] ∧ VR H μ x v := by
  have h1 := h.1
  simp at h1
  match vs, h1 with
  | ⟨[v]⟩, _ => exact ⟨v, rfl, h.2 0 x v rfl rfl⟩
theorem VRs.two {x y : AV} {vs : Array Value} (h : VRs H μ [x, y] vs) : ∃ v u, vs = #[v, u] ∧ VR H μ x v ∧ VR H μ y u := by
  have h1 := h.1
  simp at h1
  match vs, h1 with
  | ⟨[v, u]⟩, _ => exact ⟨v, u, rfl, h.2 0 x v rfl rfl, h.2 1 y u rfl rfl⟩
theorem VRs.cons_inv {x : AV} {xs : List AV} {vs : Array Value} (h : VRs H μ (x :: xs) vs) : ∃ v, ∃ us : List Value, vs = (v :: us).toArray ∧ VR H μ x v ∧ VRs H μ xs us.toArray := by
  have h1 := h.1
  match vs, h1 with
  | ⟨v :: us⟩, h1 =>
    exact ⟨v, us, rfl, h.2 0 x v rfl rfl, ⟨by simpa using h1, fun i c u hc hu => h.2 (i + 1) c u (by simpa using hc) (by simpa using hu)⟩⟩
theorem VRs.evals {env : Env} {a : Act} (he : ER H μ env a) (xs : Array Operand) : VRs H μ (xs.toList.map (evA env)) (xs.map a.eval) := by
  refine ⟨by simp, fun i c v hc hv => ?_⟩
  rw [List.getElem?_map, Array.getElem?_toList] at hc
  rw [Array.getElem?_map] at hv
  cases hx : xs[i]? with
  | none => rw [hx] at hc; cases hc
  | some x =>
    rw [hx] at hc hv
    cases hc; cases hv
    exact he.eval x
theorem VRs.app {cs cs' : List AV} {vs vs' : Array Value} (h : VRs H μ cs vs) (h' : VRs H μ cs' vs') : VRs H μ (cs ++ cs') (vs ++ vs') := by
  have := VRs.append (vs := vs.toList) (vs' := vs'.toList) (by simpa using h) (by simpa using h')
  rwa [show (vs.toList ++ vs'.toList).toArray = vs ++ vs' from Array.ext' (by simp)] at this
def next1 (s : Sem Value) : Sem Next := do pure (.value (← s))
theorem Tl_ {s : Sem Value} {v : Value} {w w' : World} (h : s.run P w = .ok v w') : (next1 s).run P w = .ok (.value v) w' := by
  unfold next1; simp [h]
theorem Zz_ (hr : HR H μ w) {t : TypeId} {x z : AV} {type : TypeId} {v : Value} (hx : VR H μ x v) (h : F1_ P H t x = some (z, H')) :
    OkV P H μ w (Builtin.clear_ #[t] type #[v]) z H' := by
  unfold F1_ at h
  cases he : elemA P t with
  | none => rw [he] at h; cases h
  | some e =>
    rw [he] at h
    simp only [Option.bind_some] at h
    have hu := Dj_ he
    split at h
    · simp only [Option.some.injEq, Prod.mk.injEq] at h
      obtain ⟨rfl, rfl⟩ := h
      obtain rfl := hx.nilslc_inv
      exact OkV.here hr (v := .tuple #[]) (by simp [Builtin.clear_, run_underlying hu]) (.tup [] #[] rfl (fun i c v hc => by simp at hc))
    · rename_i r n
      split at h
      case h_2 => cases h
      rename_i B hB
      split at h
      case isFalse => cases h
      rename_i hv
      have hok := hx.slc_inv hB hv
      split at h
      · rename_i hn
        subst hn
        simp only [Option.some.injEq, Prod.mk.injEq] at h
        obtain ⟨rfl, rfl⟩ := h
        obtain ⟨a, c, rfl⟩ := hok.slice
        exact OkV.here hr (v := .tuple #[]) (by simp [Builtin.clear_, run_underlying hu]) (.tup [] #[] rfl (fun i c v hc => by simp at hc))
      · rename_i hn
        cases hi : P.info? e with
        | none => rw [hi] at h; cases h
        | some i =>
        cases hz : i.zero with
        | none => rw [hi] at h; simp [hz] at h
        | some zv =>
        rw [hi] at h
        simp only [Option.bind_some, hz] at h
        split at h
        case isFalse => cases h
        rename_i hk
        obtain ⟨k5, k6⟩ := hk
        obtain ⟨hb, ⟨c, rfl, _, _⟩ | ⟨h0, _⟩⟩ := hok
        case inr => exact absurd h0 hn
        rw [k6, Nat.mul_one] at hb
        unfold stN at h
        rw [hB] at h
        simp only at h
        split at h
        case isFalse => cases h
        rename_i hs
        obtain ⟨s1, s2, s3, s4, s5⟩ := hs
        simp only [Option.map_some, Option.some.injEq, Prod.mk.injEq] at h
        obtain ⟨rfl, rfl⟩ := h
        have hsz : (Builtin.zeroCells zv.cells n).size = n := by simp [Builtin.zeroCells, k5]
        have hvs : VRs H μ (List.replicate n (absC (zv.cells.getD 0 undef))) (Builtin.zeroCells zv.cells n) := by
          refine ⟨by simp [hsz], fun j c v hc hv => ?_⟩
          have hj : j < n := by
            have := (List.getElem?_eq_some_iff.1 hc).1
            simpa using this
          rw [List.getElem?_replicate, if_pos hj] at hc
          cases hc
          simp only [Builtin.zeroCells, Array.getElem?_map, Array.getElem?_range] at hv
          rw [k5, Nat.mul_one, if_pos hj] at hv
          simp only [Option.map_some, Option.some.injEq] at hv
          subst hv
          rw [Nat.mod_one]
          have : zv.cells[0]! = zv.cells.getD 0 undef := by
            simp [Array.getElem!_eq_getD, k5]
          rw [this]
          exact VR.absC H μ _
        obtain ⟨cur, e', fr', g1, gf, g2, g3, g4⟩ := hr.putRow hB s1 r.off (List.replicate n (absC (zv.cells.getD 0 undef))) (Builtin.zeroCells zv.cells n).toList (by simpa using hb) (by simp [hsz]) (fun i c u hc' hu => hvs.2 i c u hc' (by simpa using hu)) s5
        have hst := Kd_ P (μ.blk r.id) r.off e' fr' (Builtin.zeroCells zv.cells n).toList 0 cur w g1 gf (by simpa using g2) (Md_ s4 hvs)
        have hoff : μ.off r.id = 0 := ((hr.cells r.id B hB).choose_spec.choose_spec.choose_spec.2.2.2.2 s1).1
        simp only [Nat.add_zero] at hst
        have hzv : (zeroValue e).run P w = .ok zv w := by simp [zeroValue, typeInfo, hi, hz]
        obtain ⟨m, rfl⟩ : ∃ m, n = m + 1 := ⟨n - 1, by omega⟩
        refine ⟨.tuple #[], _, _, ?_, .tup [] #[] rfl (fun i c v hc => by simp at hc), g3, g4⟩
        simp [Builtin.clear_, run_underlying hu, hzv, hoff, hst]
    · cases h
theorem Aa8_ (hr : HR H μ w) {t tx type : TypeId} {d x z : AV} {dv xv : Value} (hd : VR H μ d dv) (hx : VR H μ x xv) (h : copyA P H t d x = some (z, H')) :
    OkV P H μ w (Builtin.copy_ #[t, tx] type #[dv, xv]) z H' := by
  unfold copyA at h
  cases he : elemA P t with
  | none => rw [he] at h; cases h
  | some e =>
    rw [he] at h
    simp only [Option.bind_some] at h
    have hu := Dj_ he
    split at h
    case h_2 => cases h
    rename_i r n
    split at h
    case h_2 => cases h
    rename_i B hB
    split at h
    case isFalse => cases h
    rename_i hv
    have hok := hd.slc_inv hB hv
    cases hl : lenS x with
    | none => rw [hl] at h; cases h
    | some m =>
    rw [hl] at h
    simp only [Option.bind_some] at h
    cases hrd : rdS H x with
    | none => rw [hrd] at h; cases h
    | some news =>
    rw [hrd] at h
    simp only [Option.bind_some] at h
    split at h
    case isFalse => cases h
    rename_i hk
    obtain ⟨k1, k2, k3⟩ := hk
    have hsz := fun w => Bj_ (P := P) k1 w
    split at h
    · rename_i h0
      simp only [Option.some.injEq, Prod.mk.injEq] at h
      obtain ⟨rfl, rfl⟩ := h
      obtain ⟨a, c, rfl⟩ := hok.slice
      obtain ⟨b, c', rfl⟩ := Rv_ hx hl hrd
      have h0' : Nat.min m n = 0 := h0
      cases b <;> exact OkV.here hr (by simp [Builtin.copy_, run_underlying hu, Builtin.lenOf, hsz, h0', h0, Builtin.firstCells, loadCells, loadCellsFrom, storeCells, goInt]) (VR.int _ _)
    · rename_i h0
      obtain ⟨hb, ⟨c, rfl, _, _⟩ | ⟨hn0, _⟩⟩ := hok
      case inr => exact absurd (by rw [hn0]; exact Nat.min_zero m) h0
      rw [k2, Nat.mul_one] at hb
      obtain ⟨K, hK⟩ : ∃ K, K = min m n := ⟨_, rfl⟩
      rw [← hK] at h h0
      have hKm : K ≤ m := by omega
      have hKn : K ≤ n := by omega
      obtain ⟨ax, cx, vs, rfl, hvl, hvc, hvr⟩ := Sk_ hr hx hl hrd (by omega)
      unfold stN at h
      rw [hB] at h
      simp only at h
      split at h
      case isFalse => cases h
      rename_i hs
      obtain ⟨s1, s2, s3, s4, s5⟩ := hs
      simp only [Option.map_some, Option.some.injEq, Prod.mk.injEq] at h
      obtain ⟨rfl, rfl⟩ := h
      have hlt : (news.take K).length = K := by rw [List.length_take, k3]; omega
      have hvt : (vs.take K).length = K := by rw [List.length_take, hvl, k3]; omega
      have hvs : VRs H μ (news.take K) (vs.take K).toArray := by
        refine ⟨by rw [List.size_toArray, hlt, hvt], fun j c v hc hv => ?_⟩
        have hj : j < K := by
          have := (List.getElem?_eq_some_iff.1 hc).1
          omega
        rw [List.getElem?_take_of_lt hj] at hc
        simp only [List.getElem?_toArray] at hv
        rw [List.getElem?_take_of_lt hj] at hv
        exact hvr.2 j c v hc (by simpa using hv)
      obtain ⟨cur, e', fr', g1, gf, g2, g3, g4⟩ := hr.putRow hB s1 r.off (news.take K) (vs.take K) (by rw [hlt]; omega) (by rw [hlt, hvt]) (fun i c u hc' hu => hvs.2 i c u hc' (by simpa using hu)) s5
      have hst := Kd_ P (μ.blk r.id) r.off e' fr' (vs.take K) 0 cur w g1 gf (by simpa using g2) (by simpa using Md_ s4 hvs)
      have hoff : μ.off r.id = 0 := ((hr.cells r.id B hB).choose_spec.choose_spec.choose_spec.2.2.2.2 s1).1
      simp only [Nat.add_zero] at hst
      have hf := run_firstCells_some (P := P) w 1 K ax m cx (vs.take K) (by rw [hvt]; omega) (fun j v hj => by
        have hjK : j < K := by
          have := (List.getElem?_eq_some_iff.1 hj).1
          omega
        rw [List.getElem?_take_of_lt hjK] at hj
        exact hvc j v hj)
      have hmin : Nat.min m n = K := hK.symm
      refine ⟨.int .i64 K, _, _, ?_, VR.int _ _, g3, g4⟩
      simp [Builtin.copy_, run_underlying hu, Builtin.lenOf, hsz, hmin, hf, hoff, hst, goInt]
theorem Apv_ (hr : HR H μ w) {b : Builtin} {argTypes : List TypeId} {args : List AV} {type : TypeId} {consts : Array Bool} {cargs : Array Value} {z : AV}
    (ha : VRs H μ args cargs) (h : Ap_ P H b argTypes args = some (z, H')) :
    ∃ v w' μ', (builtin b argTypes.toArray type consts cargs).run P w = .ok (.value v) w' ∧ VR H' μ' z v ∧ HR H' μ' w' ∧ Adv H μ w H' μ' w' := by
  have lift : ∀ {s : Sem Value} {z : AV} {H' : Heap}, OkV P H μ w s z H' → builtin b argTypes.toArray type consts cargs = next1 s →
      ∃ v w' μ', (builtin b argTypes.toArray type consts cargs).run P w = .ok (.value v) w' ∧ VR H' μ' z v ∧ HR H' μ' w' ∧ Adv H μ w H' μ' w' := by
    rintro s z H' ⟨v, w', μ', h1, h2, h3, h4⟩ he
    exact ⟨v, w', μ', by rw [he]; exact Tl_ h1, h2, h3, h4⟩
  unfold Ap_ at h
  split at h
  · -- len
    rename_i t x
    obtain ⟨xv, rfl, hx⟩ := ha.one
    split at h
    · rename_i s hu
      simp only [Option.some.injEq, Prod.mk.injEq] at h
      obtain ⟨rfl, rfl⟩ := h
      obtain rfl := hx.str_inv
      exact lift (s := Builtin.len_ #[t] type #[.string s]) (OkV.here hr (by simp [Builtin.len_, run_underlying hu, goInt]) (VR.int _ _)) rfl
    · rename_i e hu
      simp only [Option.some.injEq, Prod.mk.injEq] at h
      obtain ⟨rfl, rfl⟩ := h
      obtain rfl := hx.nilslc_inv
      exact lift (s := Builtin.len_ #[t] type #[.slice none 0 0]) (OkV.here hr (by simp [Builtin.len_, run_underlying hu, goInt]) (VR.int _ _)) rfl
    · rename_i e r n hu
      split at h
      · rename_i hl
        simp only [Option.some.injEq, Prod.mk.injEq] at h
        obtain ⟨rfl, rfl⟩ := h
        obtain ⟨B, hB, hv⟩ := Av_.1 hl
        obtain ⟨ad, c, rfl⟩ := (hx.slc_inv hB hv).slice
        exact lift (s := Builtin.len_ #[t] type #[.slice (some ad) n c]) (OkV.here hr (by simp [Builtin.len_, run_underlying hu, goInt]) (VR.int _ _)) rfl
      · cases h
    · cases h
  · -- append
    rename_i t tx s x
    obtain ⟨sv, xv, rfl, hs, hx⟩ := ha.two
    unfold Dw_ at h
    cases he : elemA P t with
    | none => rw [he] at h; cases h
    | some e =>
      rw [he] at h
      simp only [Option.bind_some] at h
      split at h
      · split at h
        · cases h
        · rename_i htx
          simp only [ne_eq, Decidable.not_not] at htx
          subst htx
          cases hl : lenS x with
          | none => rw [hl] at h; cases h
          | some n =>
            rw [hl] at h
            simp only [Option.bind_some] at h
            cases hrd : rdS H x with
            | none => rw [hrd] at h; cases h
            | some news =>
              rw [hrd] at h
              simp only [Option.bind_some] at h
              exact lift (s := Builtin.append_ #[t, t] type #[sv, xv]) (Y3_ hr (Dj_ he) hs (fun i k1 k2 => Z8_ hr (Dj_ he) hx hl hrd k1 k2) h) rfl
      · rename_i htx
        split at h
        · obtain rfl := hx.str_inv
          exact lift (s := Builtin.append_ #[t, tx] type #[sv, .string _]) (Y3_ hr (Dj_ he) hs (fun i k1 _ => Zl_ htx _ k1) h) rfl
        · cases h
      · cases h
  · -- clear
    rename_i t x
    obtain ⟨xv, rfl, hx⟩ := ha.one
    exact lift (s := Builtin.clear_ #[t] type #[xv]) (Zz_ hr hx h) rfl
  · -- copy
    rename_i t tx d x
    obtain ⟨dv, xv, rfl, hd, hx⟩ := ha.two
    exact lift (s := Builtin.copy_ #[t, tx] type #[dv, xv]) (Aa8_ hr hd hx h) rfl
  · -- max
    rename_i x rest
    obtain ⟨v, us, rfl, hv, hus⟩ := ha.cons_inv
    cases hm : rest.foldlM max2A x with
    | none => rw [hm] at h; cases h
    | some z' =>
      rw [hm] at h
      simp only [Option.map_some, Option.some.injEq, Prod.mk.injEq] at h
      obtain ⟨rfl, rfl⟩ := h
      refine lift (s := Builtin.max_ argTypes.toArray type (v :: us).toArray) ?_ rfl
      have := Rn_ (P := P) max2A Builtin.max2 (fun hr ha hb h => Aps_ hr ha hb h) rest us μ w x z' v hr hv hus hm
      simpa [Builtin.max_] using this
  · -- min
    rename_i x rest
    obtain ⟨v, us, rfl, hv, hus⟩ := ha.cons_inv
    cases hm : rest.foldlM min2A x with
    | none => rw [hm] at h; cases h
    | some z' =>
      rw [hm] at h
      simp only [Option.map_some, Option.some.injEq, Prod.mk.injEq] at h
      obtain ⟨rfl, rfl⟩ := h
      refine lift (s := Builtin.min_ argTypes.toArray type (v :: us).toArray) ?_ rfl
      have := Rn_ (P := P) min2A Builtin.min2 (fun hr ha hb h => Ah4_ hr ha hb h) rest us μ w x z' v hr hv hus hm
      simpa [Builtin.min_] using this
  · cases h
def KOk (H : Heap) (μ : Mem) (w : World) (x : AV) (H' : Heap) (a : Act) (dst : Option Tmp) (K : Act → World → Prop) : Prop :=
  ∀ v w' μ', VR H' μ' x v → HR H' μ' w' → Adv H μ w H' μ' w' → K (a.put dst v) w'
theorem A6_ {o : Oper} {a : Act} {K : Act → World → Prop} {Q : Exit → Act → World → Prop} {s : Sem Value} {x : AV} (hs : execOp a.eval o = next1 s)
    (h : OkV P H μ w s x H') (hK : KOk H μ w x H' a o.dst K) : o.wp P a w K Q := by
  obtain ⟨v, w', μ', h1, h2, h3, h4⟩ := h
  unfold Oper.wp
  rw [hs, Tl_ h1]
  exact hK v w' μ' h2 h3 h4
set_option maxHeartbeats 2000000 in
theorem K6_ {O : A0_} (hO : Eo_ P O) {o : Oper} {env : Env} {a : Act} {x : AV} (h : opA P O env H o = some (x, H')) (hr : HR H μ w) (he : ER H μ env a)
    {K : Act → World → Prop} {Q : Exit → Act → World → Prop} (hK : KOk H μ w x H' a o.dst K) : o.wp P a w K Q := by
  obtain ⟨dst, op, type, pos, after, guard⟩ := o
  have parts : ∀ ps : Array (Nat × Operand), (ps.toList.map fun (i, x) => (i, evA env x)).length = (ps.map fun (i, x) => (i, a.eval x)).size ∧
      ∀ (i : Nat) (p : Nat × AV) (p' : Nat × Value), (ps.toList.map fun (i, x) => (i, evA env x))[i]? = some p → (ps.map fun (i, x) => (i, a.eval x))[i]? = some p' → p.1 = p'.1 ∧ VR H μ p.2 p'.2 := by
    intro ps
    refine ⟨by simp, fun i p p' hp hp' => ?_⟩
    rw [List.getElem?_map, Array.getElem?_toList] at hp
    rw [Array.getElem?_map] at hp'
    cases hx : ps[i]? with
    | none => rw [hx] at hp; cases hp
    | some q =>
      rw [hx] at hp hp'
      cases hp; cases hp'
      exact ⟨rfl, he.eval q.2⟩
  cases op <;> simp only [opA, reduceCtorEq] at h
  case move y =>
    simp only [Option.some.injEq, Prod.mk.injEq] at h
    obtain ⟨rfl, rfl⟩ := h
    exact hK _ w μ (he.eval y) hr (Adv.refl _ _ _)
  case assign y =>
    simp only [Option.some.injEq, Prod.mk.injEq] at h
    obtain ⟨rfl, rfl⟩ := h
    exact hK _ w μ (he.eval y) hr (Adv.refl _ _ _)
  case pick c y z =>
    split at h
    · rename_i t hc
      simp only [Option.some.injEq, Prod.mk.injEq] at h
      obtain ⟨rfl, rfl⟩ := h
      have h1 := he.eval c
      rw [hc] at h1
      have h2 := h1.bool_inv
      refine A6_ (s := do pure (if ← asBool (a.eval c) then a.eval y else a.eval z)) ?_ (OkV.here hr (v := if t then a.eval y else a.eval z) ?_ ?_) hK
      · simp [execOp, next1]
      · simp [h2, asBool]
      · cases t
        · exact he.eval z
        · exact he.eval y
    · cases h
  case alloc e =>
    cases hz : zeroA P e with
    | none => rw [hz] at h; cases h
    | some z =>
      rw [hz] at h
      simp only [Option.bind_some] at h
      cases hc : z.cellsA with
      | none => rw [hc] at h; cases h
      | some cs =>
        rw [hc] at h
        simp only [Option.bind_some] at h
        cases hn : newA H cs 1 (flatT P e) with
        | none => rw [hn] at h; cases h
        | some rH =>
          obtain ⟨r, H1⟩ := rH
          rw [hn] at h
          simp only [Option.map_some, Option.some.injEq, Prod.mk.injEq] at h
          obtain ⟨rfl, rfl⟩ := h
          obtain ⟨v, hv, rfl⟩ := Wb_ hz w
          obtain ⟨rfl, rfl, g1, g2⟩ := Nv_ hr hn v.cells (Uf_ hc) e
          refine A6_ (s := Instr.alloc e true (.tuple #[])) rfl ⟨.pointer (some ⟨w.heap.size, 0, none⟩), _, _, ?_, ?_, g1, g2⟩ hK
          · simp [Instr.alloc, hv, newVar, newRow]
          · exact .ptr _ _ _ (Nt_ H _) (by simp) (fun _ => by simp [Mem.at])
  case box e y =>
    cases hc : (evA env y).cellsA with
    | none => rw [hc] at h; cases h
    | some cs =>
      rw [hc] at h
      simp only [Option.bind_some] at h
      split at h
      · rename_i hok
        cases hn : newA H cs 1 (flatT P e) with
        | none => rw [hn] at h; cases h
        | some rH =>
          obtain ⟨r, H1⟩ := rH
          rw [hn] at h
          simp only [Option.map_some, Option.some.injEq, Prod.mk.injEq] at h
          obtain ⟨rfl, rfl⟩ := h
          obtain ⟨rfl, rfl, g1, g2⟩ := Nv_ hr hn (a.eval y).cells (Pd_ hc hok (he.eval y)) e
          refine A6_ (s := Instr.box e (a.eval y)) rfl ⟨.pointer (some ⟨w.heap.size, 0, none⟩), _, _, ?_, ?_, g1, g2⟩ hK
          · simp [Instr.box, newVar, newRow]
          · exact .ptr _ _ _ (Nt_ H _) (by simp) (fun _ => by simp [Mem.at])
      · cases h
  case build t ps =>
    obtain ⟨p1, p2⟩ := parts ps
    cases hb : F8_ P H t (ps.toList.map fun (i, x) => (i, evA env x)) with
    | none => rw [hb] at h; cases h
    | some z =>
      rw [hb] at h
      simp only [Option.map_some, Option.some.injEq, Prod.mk.injEq] at h
      obtain ⟨rfl, rfl⟩ := h
      exact A6_ (s := Instr.build t (ps.map fun (i, x) => (i, a.eval x))) rfl (Aie_ hr p1 p2 hb) hK
  case buildSlice t len ps =>
    obtain ⟨p1, p2⟩ := parts ps
    cases hb : Bq_ P H t len (ps.toList.map fun (i, x) => (i, evA env x)) with
    | none => rw [hb] at h; cases h
    | some q =>
      obtain ⟨cs, sz, fl⟩ := q
      rw [hb] at h
      simp only [Option.bind_some] at h
      cases hn : newA H cs sz fl with
      | none => rw [hn] at h; cases h
      | some rH =>
        obtain ⟨r, H1⟩ := rH
        rw [hn] at h
        simp only [Option.map_some, Option.some.injEq, Prod.mk.injEq] at h
        obtain ⟨rfl, rfl⟩ := h
        exact A6_ (s := Instr.buildSlice t len (ps.map fun (i, x) => (i, a.eval x))) rfl (Ajb_ hr p1 p2 hb hn) hK
  case load t y =>
    cases hl : loadA P H t (evA env y) with
    | none => rw [hl] at h; cases h
    | some z =>
      rw [hl] at h
      simp only [Option.map_some, Option.some.injEq, Prod.mk.injEq] at h
      obtain ⟨rfl, rfl⟩ := h
      exact A6_ (s := Instr.loadAt t (a.eval y)) rfl (Afp_ hr (he.eval y) hl) hK
  case store t y z =>
    cases hl : Cx_ P H t (evA env y) (evA env z) with
    | none => rw [hl] at h; cases h
    | some H1 =>
      rw [hl] at h
      simp only [Option.map_some, Option.some.injEq, Prod.mk.injEq] at h
      obtain ⟨rfl, rfl⟩ := h
      obtain ⟨w', h1, h2, h3⟩ := An9_ hr (he.eval y) (he.eval z) hl
      unfold Oper.wp
      have : (execOp a.eval { dst := dst, op := Op.store t y z, type := type, pos := pos, after := after, guard := guard }).run P w = .ok .skip w' := by
        simp [execOp, h1]
      rw [this]
      exact hK _ w' μ (.top _) h2 h3
  case nilCheck y =>
    have h1 := he.eval y
    split at h
    · rename_i r hy
      split at h
      · rename_i hl
        simp only [Option.some.injEq, Prod.mk.injEq] at h
        obtain ⟨rfl, rfl⟩ := h
        rw [hy] at h1
        obtain ⟨B, hB, hv⟩ := Av_.1 hl
        have h2 := h1.ptr_inv hB hv
        refine A6_ (s := pure (a.eval y)) ?_ (OkV.here hr rfl h1) hK
        simp [execOp, next1, h2]
      · cases h
    · rename_i f cs hy
      simp only [Option.some.injEq, Prod.mk.injEq] at h
      obtain ⟨rfl, rfl⟩ := h
      rw [hy] at h1
      obtain ⟨vs, h2, _⟩ := h1.fn_inv
      refine A6_ (s := pure (a.eval y)) ?_ (OkV.here hr rfl h1) hK
      simp [execOp, next1, h2]
    · cases h
  case binOp op t y z u =>
    cases hb : binA P H op t (evA env y) (evA env z) with
    | none => rw [hb] at h; cases h
    | some q =>
      rw [hb] at h
      simp only [Option.map_some, Option.some.injEq, Prod.mk.injEq] at h
      obtain ⟨rfl, rfl⟩ := h
      exact A6_ (s := do eqGuard op t y z (a.eval y) (a.eval z); Go.binOp op t (a.eval y) (a.eval z)) rfl (Ae1_ hr y z (he.eval y) (he.eval z) hb) hK
  case unOp op t y =>
    cases hb : unA op (evA env y) with
    | none => rw [hb] at h; cases h
    | some q =>
      rw [hb] at h
      simp only [Option.map_some, Option.some.injEq, Prod.mk.injEq] at h
      obtain ⟨rfl, rfl⟩ := h
      exact A6_ (s := Op.unary op (a.eval y)) rfl (Aq7_ hr (he.eval y) hb) hK
  case convert s d y =>
    exact A6_ (s := Go.convert s d (a.eval y)) rfl (Afy_ hr (he.eval y) h) hK
  case makeFunc fn first cap =>
    cases fn <;> simp only [reduceCtorEq] at h
    rename_i f
    split at h
    · rename_i hf
      simp only [Option.some.injEq, Prod.mk.injEq] at h
      obtain ⟨rfl, rfl⟩ := h
      have hf' : first = #[] := Array.eq_empty_of_size_eq_zero hf
      subst hf'
      refine A6_ (s := Instr.makeFunc (.func f) ((#[] : Array Operand).map a.eval) (cap.map a.eval)) rfl (OkV.here hr (v := .func (.func f) #[] (cap.map a.eval)) (by simp [Instr.makeFunc]) ?_) hK
      have := VRs.evals he cap
      exact .fn f _ _ this.1 this.2
    · cases h
  case makeSlice t l c =>
    exact A6_ (s := Instr.makeSlice t (a.eval l) (a.eval c)) rfl (Ad3_ hr (he.eval l) (he.eval c) h) hK
  case slice t y lo hi mx =>
    cases mx with
    | some m =>
      simp only at h
      cases hb : I3_ P H t (evA env y) (lo.map (evA env)) (hi.map (evA env)) (evA env m) with
      | none => rw [hb] at h; cases h
      | some q =>
        rw [hb] at h
        simp only [Option.map_some, Option.some.injEq, Prod.mk.injEq] at h
        obtain ⟨rfl, rfl⟩ := h
        refine A6_ (s := Instr.sliceAt t (a.eval y) (lo.map a.eval) (hi.map a.eval) (some (a.eval m))) rfl (Agz_ hr (he.eval y) ?_ ?_ ?_ (he.eval m) hb) hK
        · intro z hz; cases lo <;> simp at hz ⊢; subst hz; exact he.eval _
        · intro hz; cases lo <;> simp at hz ⊢
        · intro z hz; cases hi <;> simp at hz ⊢; subst hz; exact he.eval _
    | none =>
    simp only at h
    cases hb : Cg_ P H t (evA env y) (lo.map (evA env)) (hi.map (evA env)) with
    | none => rw [hb] at h; cases h
    | some q =>
      rw [hb] at h
      simp only [Option.map_some, Option.some.injEq, Prod.mk.injEq] at h
      obtain ⟨rfl, rfl⟩ := h
      refine A6_ (s := Instr.sliceAt t (a.eval y) (lo.map a.eval) (hi.map a.eval) none) rfl (Z7_ hr (he.eval y) ?_ ?_ ?_ ?_ hb) hK
      · intro z hz; cases lo <;> simp at hz ⊢; subst hz; exact he.eval _
      · intro hz; cases lo <;> simp at hz ⊢
      · intro z hz; cases hi <;> simp at hz ⊢; subst hz; exact he.eval _
      · intro hz; cases hi <;> simp at hz ⊢
  case fieldAddr s y f =>
    cases hb : Ck_ P H s (evA env y) f with
    | none => rw [hb] at h; cases h
    | some q =>
      rw [hb] at h
      simp only [Option.map_some, Option.some.injEq, Prod.mk.injEq] at h
      obtain ⟨rfl, rfl⟩ := h
      exact A6_ (s := Instr.fieldAt s (a.eval y) f) rfl (Aks_ hr (he.eval y) hb) hK
  case field s y f =>
    cases hb : H7_ P s (evA env y) f with
    | none => rw [hb] at h; cases h
    | some q =>
      rw [hb] at h
      simp only [Option.map_some, Option.some.injEq, Prod.mk.injEq] at h
      obtain ⟨rfl, rfl⟩ := h
      exact A6_ (s := Instr.field s (a.eval y) f) rfl (Adz_ hr (he.eval y) hb) hK
  case indexAddr t y ix =>
    cases hb : B1_ P H t (evA env y) (evA env ix) with
    | none => rw [hb] at h; cases h
    | some q =>
      rw [hb] at h
      simp only [Option.map_some, Option.some.injEq, Prod.mk.injEq] at h
      obtain ⟨rfl, rfl⟩ := h
      exact A6_ (s := Instr.indexAt t (a.eval y) (a.eval ix)) rfl (Acx_ hr (he.eval y) (he.eval ix) hb) hK
  case index t y ix =>
    cases hb : Fa_ P t (evA env y) (evA env ix) with
    | none => rw [hb] at h; cases h
    | some q =>
      rw [hb] at h
      simp only [Option.map_some, Option.some.injEq, Prod.mk.injEq] at h
      obtain ⟨rfl, rfl⟩ := h
      exact A6_ (s := Instr.index t (a.eval y) (a.eval ix)) rfl (Anm_ hr (he.eval y) (he.eval ix) hb) hK
  case extract t i =>
    split at h
    · rename_i vs ht
      cases hv : vs[i]? with
      | none => rw [hv] at h; cases h
      | some z =>
        rw [hv] at h
        simp only [Option.map_some, Option.some.injEq, Prod.mk.injEq] at h
        obtain ⟨rfl, rfl⟩ := h
        have h1 := he.eval t
        rw [ht] at h1
        obtain ⟨us, h2, h3⟩ := h1.tup_inv
        have hlt : i < us.size := by rw [← h3.1]; exact (List.getElem?_eq_some_iff.1 hv).1
        refine A6_ (s := Instr.extract (a.eval t) i) rfl (OkV.here hr (v := us[i]) (by simp [Instr.extract, h2, hlt]) (h3.2 i _ _ hv (Array.getElem?_eq_getElem hlt))) hK
    · cases h
  case call c =>
    obtain ⟨callee, cargs, argTypes⟩ := c
    unfold callA at h
    have hargs := VRs.evals he cargs
    cases callee with
    | builtin b =>
      simp only at h
      have hexe : ∃ consts, (execOp a.eval { dst := dst, op := Op.call ⟨.builtin b, cargs, argTypes⟩, type := type, pos := pos, after := after, guard := guard }).run P w = (builtin b argTypes type consts (cargs.map a.eval)).run P w := ⟨_, rfl⟩
      obtain ⟨consts, hexe⟩ := hexe
      obtain ⟨v, w', μ', h1, h2, h3, h4⟩ := Apv_ (type := type) (consts := consts) hr hargs h
      rw [Array.toArray_toList] at h1
      unfold Oper.wp
      rw [hexe, h1]
      exact hK v w' μ' h2 h3 h4
    | invoke r m => cases h
    | value f =>
      simp only at h
      split at h
      · rename_i g caps hf
        have h1 := he.eval f
        rw [hf] at h1
        obtain ⟨vs, h2, h3⟩ := h1.fn_inv
        have hok := hO g _ H x H' h μ w (cargs.map a.eval ++ vs) hr (hargs.app h3)
        have hex : ∀ r, (callFunc g (cargs.map a.eval ++ vs)).run P w = r → (execOp a.eval { dst := dst, op := Op.call ⟨.value f, cargs, argTypes⟩, type := type, pos := pos, after := after, guard := guard }).run P w = r := by
          intro r hrn
          simp only [execOp, resolve, h2, Deferred.ofValue, Sem.run_bind]
          simpa [invoke] using hrn
        unfold Oper.wp
        rcases hok with ⟨e1, e2⟩ | ⟨v, w', μ', e1, e2, e3, e4⟩
        · rw [hex _ e1, Oper.upon_enter]
          refine e2.mono ?_
          rintro e w' ⟨v, μ', rfl, e3, e4, e5⟩
          exact hK v w' μ' e3 e4 e5
        · rw [hex _ e1, Oper.upon_value]
          exact hK v w' μ' e2 e3 e4
      · cases h
end
end Go.Proofs.Ytmgpbchacndndaa.AM
