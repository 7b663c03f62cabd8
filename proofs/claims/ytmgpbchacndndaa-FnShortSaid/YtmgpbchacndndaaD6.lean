import Derived.Test.YtmgpbchacndndaaD5
set_option linter.unusedSimpArgs false
set_option linter.unusedVariables false
namespace Go.Proofs.Ytmgpbchacndndaa.AM
section
variable {P : Program} {T : TyT} {F : Fr} {L : List DBlk} {H : Heap}
theorem TyOk.some {t : TypeId} {i : TyI} (h : TyOk P t i) : ∃ d, P.underlying t = .some d := by
  have hu := h.und
  cases hk : i.kind with
  | struct fs => rw [hk] at hu; exact ⟨_, hu.1.choose_spec.1⟩
  | other => rw [hk] at hu; obtain ⟨d, h, _⟩ := hu; exact ⟨d, h⟩
  | _ => rw [hk] at hu; exact ⟨_, hu⟩
theorem Ach_ (hT : TOk P T) {s d : TypeId} {x z : DV} {L' : List DBlk} (h : (convD T s d x L).run = .some (z, L')) : convA P s d (x.av F) = .some (z.av F) ∧ z.Ok F L ∧ L' = L := by
  unfold convD at h
  split at h
  · rename_i hs hd
    obtain ⟨us, hus⟩ := (hT s _ hs).some
    have hud := (hT d _ hd).und
    simp only [undOk] at hud
    simp only [Tree.run, Option.some.injEq, Prod.mk.injEq] at h
    obtain ⟨rfl, rfl⟩ := h
    exact ⟨by simp [convA, DV.av, hus, hud], trivial, rfl⟩
  · rename_i hs hd
    obtain ⟨us, hus⟩ := (hT s _ hs).some
    have hud := (hT d _ hd).und
    simp only [undOk] at hud
    simp only [Tree.run, Option.some.injEq, Prod.mk.injEq] at h
    obtain ⟨rfl, rfl⟩ := h
    exact ⟨by simp [convA, DV.av, hus, hud], trivial, rfl⟩
  · rename_i hs hd
    obtain ⟨us, hus⟩ := (hT s _ hs).some
    have hud := (hT d _ hd).und
    simp only [undOk] at hud
    simp only [Tree.run] at h
    obtain ⟨n, hn, h⟩ := Option.bind_eq_some_iff.1 h
    simp only [Tree.run, Option.some.injEq, Prod.mk.injEq] at h
    obtain ⟨rfl, rfl⟩ := h
    exact ⟨by simp [convA, DV.av, hus, hud, hn], trivial, rfl⟩
  · rename_i hs hd
    obtain ⟨us, hus⟩ := (hT s _ hs).some
    have hud := (hT d _ hd).und
    simp only [undOk] at hud
    simp only [Tree.run, Option.some.injEq, Prod.mk.injEq] at h
    obtain ⟨rfl, rfl⟩ := h
    exact ⟨by simp [convA, DV.av, hus, hud, fconv], trivial, rfl⟩
  · rename_i hs hd
    obtain ⟨us, hus⟩ := (hT s _ hs).some
    have hud := (hT d _ hd).und
    simp only [undOk] at hud
    simp only [Tree.run, Option.some.injEq, Prod.mk.injEq] at h
    obtain ⟨rfl, rfl⟩ := h
    exact ⟨by simp [convA, DV.av, hus, hud, fconv], trivial, rfl⟩
  · rename_i hs hd
    obtain ⟨us, hus⟩ := (hT s _ hs).some
    have hud := (hT d _ hd).und
    simp only [undOk] at hud
    simp only [Tree.run, Option.some.injEq, Prod.mk.injEq] at h
    obtain ⟨rfl, rfl⟩ := h
    exact ⟨by simp [convA, DV.av, hus, hud, Aep_], trivial, rfl⟩
  · rename_i hs hd
    obtain ⟨us, hus⟩ := (hT s _ hs).some
    have hud := (hT d _ hd).und
    simp only [undOk] at hud
    simp only [Tree.run] at h
    obtain ⟨n, hn, h⟩ := Option.bind_eq_some_iff.1 h
    simp only [Tree.run, Option.some.injEq, Prod.mk.injEq] at h
    obtain ⟨rfl, rfl⟩ := h
    exact ⟨by simp [convA, DV.av, hus, hud, hn], trivial, rfl⟩
  · rename_i hs hd
    obtain ⟨us, hus⟩ := (hT s _ hs).some
    have hud := (hT d _ hd).und
    simp only [undOk] at hud
    simp only [Tree.run, Option.some.injEq, Prod.mk.injEq] at h
    obtain ⟨rfl, rfl⟩ := h
    exact ⟨by simp [convA, DV.av, hus, hud], trivial, rfl⟩
  · cases h
theorem Afl_ (hT : TOk P T) (hs : St F L H) {s d : TypeId} {x z : DV} {L' : List DBlk} (hx : x.Ok F L) (h : (M9_ T s d x L).run = .some (z, L')) : ∃ F' H', FrLe F F' L ∧ convB P H s d (x.av F) = .some (z.av F', H') ∧ St F' L' H' ∧ z.Ok F' L' ∧ Ext L L' := by
  unfold M9_ at h
  split at h
  · rename_i e' _ _ _ _ e _ _ _ _ j ver len hTs hTd
    have hus : P.underlying s = .some (.slice e') := (hT s _ hTs).und
    have hud : P.underlying d = .some (.slice e) := (hT d _ hTd).und
    split at h
    case h_2 => cases h
    rename_i hTe hsd hg
    have hsd := Nat.eq_of_beq_eq_true hsd
    subst hsd
    have hue : P.underlying e = .some (.int .u8) := (hT e _ hTe).und
    simp only [Tree.run] at h
    split at h
    case isFalse => cases h
    rename_i hpos
    have hpos : 0 < len := by simpa using hpos
    simp only [Option.some.injEq, Prod.mk.injEq] at h
    obtain ⟨rfl, rfl⟩ := h
    have hx' := hx
    obtain ⟨b, h1, h2, h3, h4, h5⟩ := hx
    obtain ⟨g1, g2⟩ := Al_ hg
    rw [h1] at g1; cases g1
    refine ⟨F, H, FrLe.refl F _, ?_, hs, hx', Ext.refl _⟩
    rw [hus] at hud; cases hud
    simp only [convB, hus, hue, DV.av, hs.row h1]
    rw [if_pos ⟨trivial, hpos⟩, if_pos ⟨by rw [Row.cells_len]; exact h4 g2.symm, trivial⟩]
  · rename_i e _ _ _ _ b hTs hTd
    have hus : P.underlying s = .some .string := (hT s _ hTs).und
    have hud : P.underlying d = .some (.slice e) := (hT d _ hTd).und
    split at h
    case h_2 => cases h
    rename_i hTe
    have hue : P.underlying e = .some (.int .u8) := (hT e _ hTe).und
    simp only [Tree.run] at h
    split at h
    case isFalse => cases h
    rename_i hf
    rw [Do_] at hf
    simp only [Option.some.injEq, Prod.mk.injEq] at h
    obtain ⟨rfl, rfl⟩ := h
    have hl := Yd_ b
    have hst := hs.push (b := .row (.u8 (numsS b)) 0) (.inl ⟨_, _, rfl⟩) (show (Row.u8 (numsS b)).len ≤ maxN by rw [hl]; exact hf)
    refine ⟨_, _, F.new_le H.length, ?_, hst, ⟨.row (.u8 (numsS b)) 0, by simp, Nat.le_refl _, by simp only [DBlk.clen]; omega, fun _ => by simp only [DBlk.clen]; omega, hf⟩, Ext.push _ _⟩
    simp only [convB, hus, hud, hue, DV.av, F.new_abs, DBlk.blk, Yt_]
  · cases h
theorem Aea_ (xs : List Int) : C8_ (xs.map (AV.int .u8)) = .some xs := by
  induction xs with
  | nil => rfl
  | cons x xs ih => simp [C8_, ih]
theorem Zv_ (hT : TOk P T) (hs : St F L H) {s d : TypeId} {x z : DV} {L' : List DBlk} (hx : x.Ok F L) (h : (E2_ T s d x L).run = .some (z, L')) : convS P H s d (x.av F) = .some (z.av F) ∧ z.Ok F L ∧ L' = L := by
  unfold E2_ at h
  split at h
  case h_2 => cases h
  rename_i e _ _ _ _ _ _ _ _ hTs hTd
  have hus : P.underlying s = .some (.slice e) := (hT s _ hTs).und
  have hud : P.underlying d = .some .string := (hT d _ hTd).und
  split at h
  case h_2 => cases h
  rename_i hTe
  have hue : P.underlying e = .some (.int .u8) := (hT e _ hTe).und
  split at h
  case h_2 => cases h
  rename_i xs hr
  simp only [Tree.run, Option.some.injEq, Prod.mk.injEq] at h
  obtain ⟨rfl, rfl⟩ := h
  have hR := C1_ hs hx hr
  refine ⟨?_, trivial, rfl⟩
  have h1 := hR.rdS.1
  simp only [convS, hus, hud, hue, h1, Option.bind_some, Row.cells, Aea_, DV.av]
  rcases hR with ⟨e1, _⟩ | ⟨p, B, e1, k1, k2, k3, _⟩
  · rw [e1]
  · rw [e1]; simp only [k1, k3, if_true]
theorem Acm_ (hT : TOk P T) (hs : St F L H) {s d : TypeId} {x z : DV} {L' : List DBlk} (hx : x.Ok F L) (h : (Ke_ T s d x L).run = .some (z, L')) : ∃ F' H', FrLe F F' L ∧ convH P H s d (x.av F) = .some (z.av F', H') ∧ St F' L' H' ∧ z.Ok F' L' ∧ Ext L L' := by
  unfold Ke_ at h
  unfold convH
  split at h
  · rename_i hd
    rw [if_pos (Nat.eq_of_beq_eq_true hd)]
    exact Afl_ hT hs hx h
  · rename_i hd
    have hd : d ≠ Ge_ := fun e => by rw [e] at hd; simp at hd
    rw [if_neg hd]
    have sc : (E2_ T s d x L).run = .some (z, L') → (∃ r n, x.av F = .slc r n) ∨ x.av F = .nilslc → ∃ F' H', FrLe F F' L ∧ (match x.av F with | .slc _ _ | .nilslc => (convS P H s d (x.av F)).map fun v => (v, H) | _ => (convA P s d (x.av F)).map fun v => (v, H)) = .some (z.av F', H') ∧ St F' L' H' ∧ z.Ok F' L' ∧ Ext L L' := by
      intro h hx0
      obtain ⟨k1, k2, rfl⟩ := Zv_ hT hs hx h
      refine ⟨F, H, FrLe.refl F _, ?_, hs, k2, Ext.refl _⟩
      rcases hx0 with ⟨r, n, e⟩ | e <;> rw [e] at k1 ⊢ <;> simp only [k1, Option.map_some]
    split at h
    · exact sc h (.inl ⟨_, _, rfl⟩)
    · exact sc h (.inl ⟨_, _, rfl⟩)
    · refine sc h ?_
      simp only [DV.av]
      rcases hx H hs.ag with ⟨e, _⟩ | ⟨p, B, e, _⟩ <;> rw [e]
      · exact .inr rfl
      · exact .inl ⟨_, _, rfl⟩
    · refine sc h ?_
      rename_i j c k len
      cases k with
      | zero => exact .inr rfl
      | succ k => exact .inl ⟨_, _, rfl⟩
    · obtain ⟨k1, k2, rfl⟩ := Ach_ (F := F) (L := L) hT h
      refine ⟨F, H, FrLe.refl F _, ?_, hs, k2, Ext.refl _⟩
      have hns : ∀ (w : AV), (convA P s d w = .some (z.av F)) → (match w with | .slc _ _ | .nilslc => (convS P H s d w).map fun v => (v, H) | _ => (convA P s d w).map fun v => (v, H)) = .some (z.av F, H) := by
        intro w hw
        cases w <;> first | (simp only [hw, Option.map_some]; done) | (exfalso; revert hw; unfold convA; cases P.underlying s <;> cases P.underlying d <;> simp)
      exact hns _ k1
theorem Au_ (env : List DV) (x : Operand) : evA (DVs.av F env) x = (evD env x).av F := by
  have h0 : ∀ v : Value, absC v = (absD0 v).av F := by
    intro v
    unfold absC absD0
    split <;> first | rfl | (split <;> simp_all [DV.av])
  cases x with
  | tmp t =>
    simp only [evA, evD, DVs.av_eq, List.getElem?_map]
    cases env[t]? <;> rfl
  | const v =>
    simp only [evA, evD]
    unfold absV absD
    split
    · simp only [DV.av, DVs.av_eq, List.map_map]
      congr 1
      exact List.map_congr_left fun c _ => h0 c
    · split
      · simp_all
      · exact h0 _
  | global g => rfl
  | func f => rfl
theorem G8_ {env : List DV} (henv : DVs.Ok F L env) (x : Operand) : (evD env x).Ok F L := by
  have h0 : ∀ v : Value, (absD0 v).Ok F L := by
    intro v
    unfold absD0
    split <;> trivial
  cases x with
  | tmp t =>
    simp only [evD]
    split
    · rename_i v hv; exact DVs.ok_iff.1 henv v (List.mem_of_getElem? hv)
    · trivial
  | const v =>
    simp only [evD]
    unfold absD
    split
    · refine DVs.ok_iff.2 fun c hc => ?_
      rw [List.mem_map] at hc
      obtain ⟨w, _, rfl⟩ := hc
      exact h0 w
    · exact h0 _
  | global g => trivial
  | func f => trivial
theorem N6_ (env : List DV) (xs : List Operand) : xs.map (evA (DVs.av F env)) = DVs.av F (xs.map (evD env)) := by
  rw [DVs.av_eq (cs := xs.map (evD env)), List.map_map]
  exact List.map_congr_left fun x _ => Au_ env x
theorem T8_ {env : List DV} (henv : DVs.Ok F L env) (xs : List Operand) : DVs.Ok F L (xs.map (evD env)) :=
  DVs.ok_iff.2 fun c hc => by
    rw [List.mem_map] at hc
    obtain ⟨x, _, rfl⟩ := hc
    exact G8_ henv x
theorem DVs.ok_ext {L' : List DBlk} (he : Ext L L') {xs : List DV} (h : DVs.Ok F L xs) : DVs.Ok F L' xs := DVs.ok_iff.2 fun c hc => (DVs.ok_iff.1 h c hc).ext he
def Fz_ (o : Oper) : Bool :=
  match o.op with
  | .call { callee := .value _, .. } => true
  | _ => false
theorem Aqo_ (hT : TOk P T) (hs : St F L H) {b : Builtin} {ts : List TypeId} {args : List DV} {y : DV} {L' : List DBlk} (ha : DVs.Ok F L args) (h : (Kl_ T b ts args L).run = .some (y, L')) :
    ∃ F' H', FrLe F F' L ∧ Ap_ P H b ts (DVs.av F args) = .some (y.av F', H') ∧ St F' L' H' ∧ y.Ok F' L' ∧ Ext L L' := by
  unfold Kl_ at h
  split at h
  · obtain ⟨k1, k2, rfl⟩ := Acy_ hT hs ha.1 h
    exact ⟨F, H, FrLe.refl F _, k1, hs, k2, Ext.refl _⟩
  · exact Ad8_ hT hs ha.1 ha.2.1 h
  · obtain ⟨H', k1, k2, k3, k4⟩ := Ahe_ hT hs ha.1 h
    exact ⟨F, H', FrLe.refl F _, k1, k2, k3, k4⟩
  · obtain ⟨H', k1, k2, k3, k4⟩ := Ait_ hT hs ha.1 ha.2.1 h
    exact ⟨F, H', FrLe.refl F _, k1, k2, k3, k4⟩
  · unfold maxD at h
    split at h <;> simp only [Tree.run, Option.some.injEq, Prod.mk.injEq, reduceCtorEq] at h
    · obtain ⟨rfl, rfl⟩ := h
      refine ⟨F, H, FrLe.refl F _, ?_, hs, trivial, Ext.refl _⟩
      cases ts with
      | nil => simp [Ap_, DVs.av, DV.av, max2A, imax]
      | cons t ts => cases ts <;> simp [Ap_, DVs.av, DV.av, max2A, imax]
    all_goals
      obtain ⟨rfl, rfl⟩ := h
      refine ⟨F, H, FrLe.refl F _, ?_, hs, trivial, Ext.refl _⟩
      rename_i x y
      have e : ∀ k, max2A (.flt k x) (.flt k y) = .some (.flt k (fmaxA k x y)) := fun k => by
        simp only [max2A, if_true, fmaxA]
        split <;> rename_i ho <;> simp [ho]
      cases ts with
      | nil => simp [Ap_, DVs.av, DV.av, e]
      | cons t ts => cases ts <;> simp [Ap_, DVs.av, DV.av, e]
  · unfold minD at h
    split at h <;> simp only [Tree.run, Option.some.injEq, Prod.mk.injEq, reduceCtorEq] at h
    obtain ⟨rfl, rfl⟩ := h
    refine ⟨F, H, FrLe.refl F _, ?_, hs, trivial, Ext.refl _⟩
    cases ts with
    | nil => simp [Ap_, DVs.av, DV.av, min2A, imin]
    | cons t ts => cases ts <;> simp [Ap_, DVs.av, DV.av, min2A, imin]
  · cases h
theorem Va_ (hT : TOk P T) (hs : St F L H) {DO : DOr} {env : List DV} {o : Oper} (henv : ∀ y ∈ o.op.operands, (evD env y).Ok F L) (hc : Fz_ o = false) {x : DV} {L' : List DBlk} (h : (opD T DO env L o).run = .some (x, L')) :
    ∃ F' H', FrLe F F' L ∧ (∀ O, opA P O (DVs.av F env) H o = .some (x.av F', H')) ∧ St F' L' H' ∧ x.Ok F' L' ∧ Ext L L' := by
  obtain ⟨dst, op, type, pos, after, guard⟩ := o
  simp only at henv
  have parts : ∀ ps : Array (Nat × Operand), (ps.toList.map fun (i, x) => (i, evA (DVs.av F env) x)) = (ps.toList.map fun q => (q.1, evD env q.2)).map fun q => (q.1, q.2.av F) := fun ps => by
    rw [List.map_map]
    exact List.map_congr_left fun q _ => by simp only [Function.comp, Au_]
  have partsOk : ∀ ps : Array (Nat × Operand), (∀ y ∈ ps.toList.map (·.2), (evD env y).Ok F L) → ∀ q ∈ (ps.toList.map fun q => (q.1, evD env q.2)), q.2.Ok F L := fun ps hps q hq => by
    rw [List.mem_map] at hq
    obtain ⟨w, hw, rfl⟩ := hq
    exact hps w.2 (List.mem_map.2 ⟨w, hw, rfl⟩)
  have listOk : ∀ xs : List Operand, (∀ y ∈ xs, (evD env y).Ok F L) → DVs.Ok F L (xs.map (evD env)) := fun xs hx => DVs.ok_iff.2 fun c hc => by
    rw [List.mem_map] at hc
    obtain ⟨x, hx', rfl⟩ := hc
    exact hx x hx'
  have light : ∀ {v : AV} {o' : Option AV}, o' = .some v → (o'.map fun v => (v, H)) = .some (v, H) := fun h => by rw [h]; rfl
  cases op <;> simp only [opD] at h
  case move y =>
    simp only [Tree.run, Option.some.injEq, Prod.mk.injEq] at h
    obtain ⟨rfl, rfl⟩ := h
    exact ⟨F, H, FrLe.refl F _, fun O => by simp only [opA, Au_], hs, henv y (by simp [Op.operands]), Ext.refl _⟩
  case assign y =>
    simp only [Tree.run, Option.some.injEq, Prod.mk.injEq] at h
    obtain ⟨rfl, rfl⟩ := h
    exact ⟨F, H, FrLe.refl F _, fun O => by simp only [opA, Au_], hs, henv y (by simp [Op.operands]), Ext.refl _⟩
  case pick c y z =>
    unfold pickD at h
    split at h
    · rename_i b hb
      split at h <;> simp only [Tree.run, Option.some.injEq, Prod.mk.injEq] at h <;> obtain ⟨rfl, rfl⟩ := h
      · exact ⟨F, H, FrLe.refl F _, fun O => by simp only [opA, Au_, hb, DV.av, if_true], hs, henv y (by simp [Op.operands]), Ext.refl _⟩
      · exact ⟨F, H, FrLe.refl F _, fun O => by simp only [opA, Au_, hb, DV.av]; simp, hs, henv z (by simp [Op.operands]), Ext.refl _⟩
    · rename_i b hb
      simp only [Tree.run] at h
      split at h <;> rename_i hbt <;> simp only [Option.some.injEq, Prod.mk.injEq] at h <;> obtain ⟨rfl, rfl⟩ := h
      · exact ⟨F, H, FrLe.refl F _, fun O => by simp only [opA, Au_, hb, DV.av, hbt, if_true], hs, henv y (by simp [Op.operands]), Ext.refl _⟩
      · exact ⟨F, H, FrLe.refl F _, fun O => by simp only [opA, Au_, hb, DV.av, hbt]; simp, hs, henv z (by simp [Op.operands]), Ext.refl _⟩
    · cases h
  case alloc e =>
    unfold zeroD at h
    cases hTe : T e with
    | none => simp only [hTe] at h; unfold Dl_ at h; simp only [hTe] at h; cases h
    | some i =>
      simp only [hTe] at h
      cases hz : i.zero with
      | none => rw [hz] at h; unfold Dl_ at h; simp only [hTe] at h; cases h
      | some z =>
        rw [hz] at h
        obtain ⟨z1, z2⟩ := (hT e i hTe).zero z hz
        obtain ⟨F', cs, r, H', kF, k1, k2, k3, k4, k5, k6, k7⟩ := Tt_ hT hs (z2 F L) h
        refine ⟨F', H', kF, fun O => ?_, k5, k6, k7⟩
        simp only [opA, z1 F, Option.bind_some, k1, k3, Option.map_some, k4]
  case box e y =>
    obtain ⟨F', cs, r, H', kF, k1, k2, k3, k4, k5, k6, k7⟩ := Tt_ hT hs (henv y (by simp [Op.operands])) h
    refine ⟨F', H', kF, fun O => ?_, k5, k6, k7⟩
    simp only [opA, Au_, Option.bind_some, k1]
    rw [if_pos k2]
    simp only [k3, Option.map_some, k4]
  case build t ps =>
    obtain ⟨k1, k2, rfl⟩ := Agk_ hT hs (partsOk ps fun y hy => henv y (by simpa [Op.operands] using hy)) h
    exact ⟨F, H, FrLe.refl F _, fun O => by simp only [opA, parts]; exact light k1, hs, k2, Ext.refl _⟩
  case buildSlice t n ps =>
    obtain ⟨F', H', kF, k1, k2, k3, k4⟩ := Agy_ hT hs (partsOk ps fun y hy => henv y (by simpa [Op.operands] using hy)) h
    refine ⟨F', H', kF, fun O => ?_, k2, k3, k4⟩
    simp only [opA, parts]
    exact k1
  case load t a =>
    obtain ⟨k1, k2, rfl⟩ := Wa_ hT hs (henv a (by simp [Op.operands])) h
    exact ⟨F, H, FrLe.refl F _, fun O => by simp only [opA, Au_]; exact light k1, hs, k2, Ext.refl _⟩
  case store t a y =>
    obtain ⟨F', H', kF, k1, k2, k3, rfl⟩ := Aff_ hT hs (henv a (by simp [Op.operands])) (henv y (by simp [Op.operands])) h
    exact ⟨F', H', kF, fun O => by simp only [opA, Au_, k1]; rfl, k2, trivial, k3⟩
  case nilCheck y =>
    have hy := henv y (by simp [Op.operands])
    unfold Jr_ at h
    split at h
    · rename_i j off ver alen hj
      rw [hj] at hy
      obtain ⟨b, h1, h2, h3, h4, h5⟩ := hy
      split at h
      · rename_i b' hg
        have := (Al_ hg).1
        rw [h1] at this; cases this
        simp only [Tree.run, Option.some.injEq, Prod.mk.injEq] at h
        obtain ⟨rfl, rfl⟩ := h
        rw [hj]
        refine ⟨F, H, FrLe.refl F _, fun O => ?_, hs, ⟨_, h1, h2, h3, h4, h5⟩, Ext.refl _⟩
        simp only [opA, Au_, hj, DV.av]
        rw [if_pos (hs.live hg h5)]
      · cases h
    · rename_i p cs hj
      rw [hj] at hy
      simp only [Tree.run, Option.some.injEq, Prod.mk.injEq] at h
      obtain ⟨rfl, rfl⟩ := h
      rw [hj]
      obtain ⟨r, B, e, k1, k2, k3, k4⟩ := hy.1 H hs.ag
      refine ⟨F, H, FrLe.refl F _, fun O => ?_, hs, hy, Ext.refl _⟩
      simp only [opA, Au_, hj, DV.av, e]
      rw [if_pos (Av_.2 ⟨B, k1, k2⟩)]
    · rename_i j ver es len i c hj
      rw [hj] at hy
      obtain ⟨b, h1, h2, h3, h4, h5, h6⟩ := hy
      split at h
      · rename_i q hg
        obtain ⟨cols, fl⟩ := q
        obtain ⟨q1, q2, q3, q4, q5, q6⟩ := Bz_ hs hg h1 h4
        simp only [Tree.run, Option.some.injEq, Prod.mk.injEq] at h
        obtain ⟨rfl, rfl⟩ := h
        rw [hj]
        refine ⟨F, H, FrLe.refl F _, fun O => ?_, hs, ⟨_, h1, h2, h3, h4, h5, h6⟩, Ext.refl _⟩
        simp only [opA, Au_, hj, DV.av]
        rw [if_pos (Av_.2 ⟨_, q5, q6.symm⟩)]
      · cases h
    · rename_i f cs hj
      rw [hj] at hy
      simp only [Tree.run, Option.some.injEq, Prod.mk.injEq] at h
      obtain ⟨rfl, rfl⟩ := h
      rw [hj]
      exact ⟨F, H, FrLe.refl F _, fun O => by simp only [opA, Au_, hj, DV.av], hs, hy, Ext.refl _⟩
    · cases h
  case binOp op t y z u =>
    obtain ⟨k1, k2, rfl⟩ := Al5_ hT hs (henv y (by simp [Op.operands])) h
    exact ⟨F, H, FrLe.refl F _, fun O => by simp only [opA, Au_]; exact light k1, hs, k2, Ext.refl _⟩
  case unOp op t y =>
    obtain ⟨k1, k2, rfl⟩ := Ahw_ (F := F) h
    exact ⟨F, H, FrLe.refl F _, fun O => by simp only [opA, Au_]; exact light k1, hs, k2, Ext.refl _⟩
  case convert s d y =>
    obtain ⟨F', H', kF, k1, k2, k3, k4⟩ := Acm_ hT hs (henv y (by simp [Op.operands])) h
    exact ⟨F', H', kF, fun O => by simp only [opA, Au_]; exact k1, k2, k3, k4⟩
  case makeFunc fn first cap =>
    cases fn <;> simp only at h <;> try (cases h; done)
    split at h
    · rename_i hf
      simp only [Tree.run, Option.some.injEq, Prod.mk.injEq] at h
      obtain ⟨rfl, rfl⟩ := h
      refine ⟨F, H, FrLe.refl F _, fun O => ?_, hs, listOk _ fun y hy => henv y (by simp [Op.operands]; exact .inr (by simpa using hy)), Ext.refl _⟩
      have : first.size = 0 := by rw [← Array.length_toList, hf]; rfl
      simp only [opA, N6_, DV.av]
      rw [if_pos this]
    · cases h
  case makeSlice t l c =>
    obtain ⟨F', H', kF, k1, k2, k3, k4⟩ := Ajj_ hT hs h
    exact ⟨F', H', kF, fun O => by simp only [opA, Au_]; exact k1, k2, k3, k4⟩
  case slice t y lo hi mx =>
    have e : ∀ o : Option Operand, (o.map (evD env)).map (·.av F) = o.map (evA (DVs.av F env)) := fun o => by
      cases o with
      | none => rfl
      | some w => simp [Au_]
    cases mx with
    | some m =>
      obtain ⟨k1, rfl, rfl⟩ := Zw_ hT hs (henv y (by simp [Op.operands])) h
      rw [e, e] at k1
      exact ⟨F, H, FrLe.refl F _, fun O => by simp only [opA, Au_, k1, Option.map_some, DV.av], hs, trivial, Ext.refl _⟩
    | none =>
      obtain ⟨k1, k2, rfl⟩ := Anp_ hT hs (henv y (by simp [Op.operands])) h
      have e : ∀ o : Option Operand, (o.map (evD env)).map (·.av F) = o.map (evA (DVs.av F env)) := fun o => by
        cases o with
        | none => rfl
        | some w => simp [Au_]
      rw [e, e] at k1
      exact ⟨F, H, FrLe.refl F _, fun O => by simp only [opA, Au_]; exact light k1, hs, k2, Ext.refl _⟩
  case fieldAddr s y f =>
    obtain ⟨k1, k2, rfl⟩ := Aoz_ hT hs (henv y (by simp [Op.operands])) h
    exact ⟨F, H, FrLe.refl F _, fun O => by simp only [opA, Au_]; exact light k1, hs, k2, Ext.refl _⟩
  case field s y f =>
    obtain ⟨k1, k2, rfl⟩ := Ams_ hT hs (henv y (by simp [Op.operands])) h
    exact ⟨F, H, FrLe.refl F _, fun O => by simp only [opA, Au_]; exact light k1, hs, k2, Ext.refl _⟩
  case indexAddr t y ix =>
    obtain ⟨k1, k2, rfl⟩ := Aat_ hT hs (henv y (by simp [Op.operands])) h
    exact ⟨F, H, FrLe.refl F _, fun O => by simp only [opA, Au_]; exact light k1, hs, k2, Ext.refl _⟩
  case index t y ix =>
    obtain ⟨k1, k2, rfl⟩ := Ac7_ (F := F) hT h
    exact ⟨F, H, FrLe.refl F _, fun O => by simp only [opA, Au_]; exact light k1, hs, k2, Ext.refl _⟩
  case extract t i =>
    unfold Kh_ at h
    split at h
    · rename_i vs hvs
      obtain ⟨v, hv, h⟩ := Aa_ h
      simp only [Tree.run, Option.some.injEq, Prod.mk.injEq] at h
      obtain ⟨rfl, rfl⟩ := h
      have := henv t (by simp [Op.operands])
      rw [hvs] at this
      refine ⟨F, H, FrLe.refl F _, fun O => ?_, hs, DVs.ok_iff.1 this v (List.mem_of_getElem? hv), Ext.refl _⟩
      simp only [opA, Au_, hvs, DV.av]
      simp only [DVs.av_eq, List.getElem?_map, hv]
      rfl
    · cases h
  case call c =>
    obtain ⟨callee, args, argTypes⟩ := c
    cases callee with
    | builtin b =>
      simp only at h
      obtain ⟨F', H', kF, k1, k2, k3, k4⟩ := Aqo_ hT hs (listOk _ fun y hy => henv y (by simp [Op.operands, Call.operands]; simpa using hy)) h
      exact ⟨F', H', kF, fun O => by simp only [opA, callA, N6_]; exact k1, k2, k3, k4⟩
    | value f => simp [Fz_] at hc
    | _ => cases h
  all_goals (cases h)
end
end Go.Proofs.Ytmgpbchacndndaa.AM
