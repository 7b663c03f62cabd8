/- What an operation looks at, and what it turns. -/
import Derived.Test.YtmgpbchacndndaaD7
set_option linter.unusedSimpArgs false
set_option linter.unusedVariables false
namespace Go.Proofs.Ytmgpbchacndndaa.AM

section
variable {T : TyT} {L L2 : List DBlk} {DO : DOr} {M : FuncId → Bool}
theorem good_congr {j ver : Nat} (h : L2[j]? = L[j]?) : good L2 j ver = good L j ver := by unfold good; rw [h]
theorem goodN_congr {j ver es : Nat} (h : L2[j]? = L[j]?) : goodN L2 j ver es = goodN L j ver es := by unfold goodN; rw [good_congr h]
theorem innAt_congr {j c : Nat} (h : L2[j]? = L[j]?) : innAt L2 j c = innAt L j c := by unfold innAt; rw [h]
theorem loadD_re {t : TypeId} {p : DV} (hg : ∀ j ∈ p.refs, L2[j]? = L[j]?) : loadD T t p L2 = (loadD T t p L).bind fun r => .leaf (r.1, L2) := by
  unfold loadD
  cases T t with
  | none => rfl
  | some i =>
    cases p with
    | ptr j off ver alen =>
      have := good_congr (ver := ver) (hg j (by simp [DV.refs]))
      simp only [this]
      cases good L j ver with
      | none => rfl
      | some b =>
        cases b with
        | row r v => simp only; generalize i.kind = k; cases k <;> rfl
        | gen cs fl v => simp only; cases readD i (cs.drop off) <;> rfl
        | nest cols fl v => rfl
        | gone n v => rfl
    | bptr p cs => simp only; cases readD i cs <;> rfl
    | ncell j ver es len x c =>
      have := goodN_congr (ver := ver) (es := es) (hg j (by simp [DV.refs]))
      simp only [this]
      cases goodN L j ver es with
      | none => rfl
      | some q => obtain ⟨cols, fl⟩ := q; dsimp only; cases readD i (colCells j x c (cols.drop c)) <;> rfl
    | icell j c k x len =>
      have := innAt_congr (c := c) (hg j (by simp [DV.refs]))
      simp only [this]
      cases innAt L j c with
      | none => rfl
      | some q => obtain ⟨inn, idx⟩ := q; generalize i.kind = kd; cases kd <;> rfl
    | _ => rfl
theorem fieldAddrD_re {s : TypeId} {x : DV} {f : Nat} (hg : ∀ j ∈ x.refs, L2[j]? = L[j]?) : fieldAddrD T s x f L2 = (fieldAddrD T s x f L).bind fun r => .leaf (r.1, L2) := by
  unfold fieldAddrD
  cases T s with
  | none => rfl
  | some i =>
    obtain ⟨k, sz, fl, z, sm⟩ := i
    cases k with
    | struct fs =>
      simp only
      cases fs[f]? with
      | none => rfl
      | some oft =>
        obtain ⟨o, ft⟩ := oft
        simp only
        cases T ft with
        | none => rfl
        | some i2 =>
          simp only
          cases Nat.ble 1 i2.size with
          | false => cases x <;> rfl
          | true =>
            cases x with
            | ptr j off ver alen =>
              have := good_congr (ver := ver) (hg j (by simp [DV.refs]))
              simp only [this]
              cases good L j ver with
              | none => rfl
              | some b =>
                cases b with
                | row r v => rfl
                | gen cs fl v => simp only; cases Nat.ble (off + o + 1) cs.length <;> rfl
                | nest cols fl v => rfl
                | gone n v => rfl
            | bptr p cs => simp only; cases Nat.ble (o + 1) cs.length <;> rfl
            | ncell j ver es len x c =>
              have := goodN_congr (ver := ver) (es := es) (hg j (by simp [DV.refs]))
              simp only [this]
              cases goodN L j ver es with
              | none => rfl
              | some q => obtain ⟨cols, fl⟩ := q; cases Nat.ble (c + o + 1) es <;> rfl
            | _ => rfl
    | _ => rfl
theorem fieldD_re {s : TypeId} {x : DV} {f : Nat} : fieldD T s x f L2 = (fieldD T s x f L).bind fun r => .leaf (r.1, L2) := by
  unfold fieldD
  cases T s with
  | none => cases x <;> rfl
  | some i =>
    obtain ⟨k, sz, fl, z, sm⟩ := i
    cases k with
    | struct fs =>
      cases x with
      | agg cs =>
        simp only
        cases fs[f]? with
        | none => rfl
        | some oft =>
          obtain ⟨o, ft⟩ := oft
          simp only
          cases T ft with
          | none => rfl
          | some i2 => simp only; cases readD i2 (cs.drop o) <;> rfl
      | _ => rfl
    | _ => cases x <;> rfl
theorem indexAddrD_re {t : TypeId} {x ix : DV} (hg : ∀ j ∈ x.refs, L2[j]? = L[j]?) : indexAddrD T t x ix L2 = (indexAddrD T t x ix L).bind fun r => .leaf (r.1, L2) := by
  unfold indexAddrD
  cases T t with
  | none => cases x <;> cases ix <;> rfl
  | some i =>
    obtain ⟨k, sz, fl, z, sm⟩ := i
    cases k with
    | slice e =>
      cases ix with
      | int k n =>
        cases x with
        | own j ver len =>
          have := good_congr (ver := ver) (hg j (by simp [DV.refs]))
          simp only [this]
          cases T e with
          | none => rfl
          | some ei =>
            cases good L j ver with
            | none => rfl
            | some b =>
              cases b with
              | row r v => simp only; cases Nat.beq ei.size 1 <;> rfl
              | gen cs fl v => rfl
              | nest cols fl v => rfl
              | gone n v => rfl
        | slc j off ver alen len =>
          have := good_congr (ver := ver) (hg j (by simp [DV.refs]))
          simp only [this]
          cases T e with
          | none => rfl
          | some ei =>
            cases good L j ver with
            | none => rfl
            | some b =>
              cases b with
              | row r v => simp only; cases Nat.beq ei.size 1 <;> rfl
              | gen cs fl v => rfl
              | nest cols fl v => rfl
              | gone n v => rfl
        | bslc s r =>
          simp only
          cases T e with
          | none => rfl
          | some ei => simp only; cases Nat.beq ei.size 1 <;> rfl
        | nest j ver es len =>
          have := goodN_congr (ver := ver) (es := es) (hg j (by simp [DV.refs]))
          simp only [this]
          cases T e with
          | none => rfl
          | some ei =>
            cases goodN L j ver es with
            | none => rfl
            | some q => simp only; cases Nat.beq ei.size es <;> rfl
        | inn j c k len =>
          have := innAt_congr (c := c) (hg j (by simp [DV.refs]))
          simp only [this]
          cases T e with
          | none => rfl
          | some ei =>
            cases innAt L j c with
            | none => rfl
            | some q => simp only; cases Nat.beq ei.size 1 <;> rfl
        | rns n cols =>
          simp only
          cases T e with
          | none => rfl
          | some ei => simp only; cases Nat.beq ei.size cols.length <;> rfl
        | _ => rfl
      | _ => cases x <;> rfl
    | _ => cases x <;> cases ix <;> rfl
theorem indexD_re {t : TypeId} {x ix : DV} : indexD T t x ix L2 = (indexD T t x ix L).bind fun r => .leaf (r.1, L2) := by
  unfold indexD
  cases T t with
  | none => cases x <;> cases ix <;> rfl
  | some i =>
    obtain ⟨k, sz, fl, z, sm⟩ := i
    cases k <;> cases x <;> cases ix <;> rfl
theorem slice3D_re {t : TypeId} {x m : DV} {lo hi : Option DV} (hg : ∀ j ∈ x.refs, L2[j]? = L[j]?) : slice3D T t x lo hi m L2 = (slice3D T t x lo hi m L).bind fun r => .leaf (r.1, L2) := by
  unfold slice3D
  cases T t with
  | none => cases x <;> rfl
  | some i =>
    obtain ⟨k, sz, fl, z, sm⟩ := i
    cases k with
    | slice e =>
      cases x with
      | own j ver len =>
        have := good_congr (ver := ver) (hg j (by simp [DV.refs]))
        cases hi with
        | none => rfl
        | some h =>
          cases h with
          | int k1 h =>
            cases m with
            | int k2 k =>
              simp only [this]
              cases T e with
              | none => rfl
              | some ei =>
                cases good L j ver with
                | none => rfl
                | some b =>
                  cases b with
                  | row r v =>
                    cases loD lo with
                    | none => rfl
                    | some l => simp only; cases Nat.beq ei.size 1 <;> rfl
                  | gen cs fl v => rfl
                  | nest cols fl v => rfl
                  | gone n v => rfl
            | _ => rfl
          | _ => rfl
      | _ => rfl
    | _ => cases x <;> rfl
theorem sliceD_re {t : TypeId} {x : DV} {lo hi : Option DV} (hg : ∀ j ∈ x.refs, L2[j]? = L[j]?) : sliceD T t x lo hi L2 = (sliceD T t x lo hi L).bind fun r => .leaf (r.1, L2) := by
  unfold sliceD
  cases T t with
  | none => cases x <;> rfl
  | some i =>
    obtain ⟨k, sz, fl, z, sm⟩ := i
    cases k with
    | slice e =>
      cases x with
      | own j ver len =>
        have := good_congr (ver := ver) (hg j (by simp [DV.refs]))
        simp only [this]
        cases T e with
        | none => rfl
        | some ei =>
          cases good L j ver with
          | none => rfl
          | some b =>
            cases b with
            | row r v =>
              cases loD lo with
              | none => rfl
              | some l =>
                cases hiD len hi with
                | none => rfl
                | some h => simp only; cases Nat.beq ei.size 1 <;> rfl
            | gen cs fl v => rfl
            | nest cols fl v => rfl
            | gone n v => rfl
      | nest j ver es len =>
        have := goodN_congr (ver := ver) (es := es) (hg j (by simp [DV.refs]))
        simp only [this]
        cases T e with
        | none => rfl
        | some ei =>
          cases goodN L j ver es with
          | none => rfl
          | some q =>
            cases loD lo with
            | none => rfl
            | some l =>
              cases hiD len hi with
              | none => rfl
              | some h => simp only; cases Nat.beq ei.size es <;> rfl
      | slc j off ver alen len =>
        have := good_congr (ver := ver) (hg j (by simp [DV.refs]))
        simp only [this]
        cases T e with
        | none => rfl
        | some ei =>
          cases good L j ver with
          | none => rfl
          | some b =>
            cases b with
            | row r v =>
              cases loD lo with
              | none => rfl
              | some l =>
                cases hiD len hi with
                | none => rfl
                | some h => simp only; cases Nat.beq ei.size 1 <;> rfl
            | gen cs fl v => rfl
            | nest cols fl v => rfl
            | gone n v => rfl
      | bslc s r =>
        simp only
        cases T e with
        | none => rfl
        | some ei =>
          cases loD lo with
          | none => rfl
          | some l =>
            cases hiD r.len hi with
            | none => rfl
            | some h => simp only; cases Nat.beq ei.size 1 <;> rfl
      | _ => rfl
    | str =>
      cases x with
      | str s =>
        simp only
        cases loD lo with
        | none => rfl
        | some l => cases hiD s.size hi <;> rfl
      | _ => rfl
    | _ => cases x <;> rfl
theorem lenD_re {t : TypeId} {x : DV} (hg : ∀ j ∈ x.refs, L2[j]? = L[j]?) : lenD T t x L2 = (lenD T t x L).bind fun r => .leaf (r.1, L2) := by
  unfold lenD
  cases T t with
  | none => cases x <;> rfl
  | some i =>
    obtain ⟨k, sz, fl, z, sm⟩ := i
    cases k with
    | slice e =>
      cases x with
      | own j ver len =>
        have := good_congr (ver := ver) (hg j (by simp [DV.refs]))
        simp only [this]
        cases good L j ver <;> rfl
      | slc j off ver alen len =>
        have := good_congr (ver := ver) (hg j (by simp [DV.refs]))
        simp only [this]
        cases good L j ver <;> rfl
      | nest j ver es len =>
        have := goodN_congr (ver := ver) (es := es) (hg j (by simp [DV.refs]))
        simp only [this]
        cases goodN L j ver es <;> rfl
      | inn j c k len =>
        have := innAt_congr (c := c) (hg j (by simp [DV.refs]))
        simp only [this]
        cases innAt L j c <;> rfl
      | _ => rfl
    | _ => cases x <;> rfl
theorem nilCheckD_re {x : DV} (hg : ∀ j ∈ x.refs, L2[j]? = L[j]?) : nilCheckD x L2 = (nilCheckD x L).bind fun r => .leaf (r.1, L2) := by
  unfold nilCheckD
  cases x with
  | ptr j off ver alen =>
    have := good_congr (ver := ver) (hg j (by simp [DV.refs]))
    simp only [this]
    cases good L j ver <;> rfl
  | ncell j ver es len i c =>
    have := goodN_congr (ver := ver) (es := es) (hg j (by simp [DV.refs]))
    simp only [this]
    cases goodN L j ver es <;> rfl
  | _ => rfl
theorem binD_re {op : BinOp} {t : TypeId} {x y : DV} (hg : ∀ j ∈ x.refs, L2[j]? = L[j]?) : binD T op t x y L2 = (binD T op t x y L).bind fun r => .leaf (r.1, L2) := by
  have hb : ∀ a b, (match T t with | some ⟨.bool, _, _, _, _⟩ => bbinD op a b L2 | _ => .fail) = (match T t with | some ⟨.bool, _, _, _, _⟩ => bbinD op a b L | _ => Tree.fail).bind fun r => .leaf (r.1, L2) := by
    intro a b
    cases T t with
    | none => rfl
    | some i =>
      obtain ⟨k, sz, fl, z, sm⟩ := i
      cases k <;> first | rfl | (cases op <;> rfl)
  unfold binD
  cases x with
  | int k a =>
    cases y with
    | int k' b => cases k <;> cases k' <;> first | rfl | (cases op <;> rfl)
    | _ => cases k <;> rfl
  | flt k a =>
    cases y with
    | flt k' b => cases k <;> cases k' <;> first | rfl | (cases op <;> rfl)
    | _ => cases k <;> rfl
  | str a =>
    cases y with
    | str b => cases op <;> rfl
    | _ => rfl
  | bool a =>
    cases y with
    | bool b => exact hb a b
    | lit b => exact hb a b
    | _ => rfl
  | lit a =>
    cases y with
    | bool b => exact hb a b
    | lit b => exact hb a b
    | _ => rfl
  | nilslc =>
    cases y with
    | nilslc =>
      simp only
      cases T t with
      | none => rfl
      | some i => obtain ⟨k, sz, fl, z, sm⟩ := i; cases k <;> first | rfl | (cases op <;> rfl)
    | _ => rfl
  | own j ver len =>
    cases y with
    | nilslc =>
      have := good_congr (ver := ver) (hg j (by simp [DV.refs]))
      simp only [this]
      cases T t with
      | none => rfl
      | some i => obtain ⟨k, sz, fl, z, sm⟩ := i; cases k <;> cases good L j ver <;> first | rfl | (cases op <;> rfl)
    | _ => rfl
  | nest j ver es len =>
    cases y with
    | nilslc =>
      have := goodN_congr (ver := ver) (es := es) (hg j (by simp [DV.refs]))
      simp only [this]
      cases T t with
      | none => rfl
      | some i => obtain ⟨k, sz, fl, z, sm⟩ := i; cases k <;> cases goodN L j ver es <;> first | rfl | (cases op <;> rfl)
    | _ => rfl
  | inn j c k len =>
    cases y with
    | nilslc =>
      have := innAt_congr (c := c) (hg j (by simp [DV.refs]))
      simp only [this]
      cases T t with
      | none => rfl
      | some i => obtain ⟨kd, sz, fl, z, sm⟩ := i; cases kd <;> cases innAt L j c <;> first | rfl | (cases op <;> rfl)
    | _ => rfl
  | bslc s r =>
    cases y with
    | nilslc =>
      simp only
      cases T t with
      | none => rfl
      | some i => obtain ⟨k, sz, fl, z, sm⟩ := i; cases k <;> first | rfl | (cases op <;> rfl)
    | _ => rfl
  | _ => rfl
theorem unD_re {op : UnOp} {x : DV} : unD op x L2 = (unD op x L).bind fun r => .leaf (r.1, L2) := by
  unfold unD
  cases op <;> cases x <;> rfl
theorem rowOf_congr {x : DV} (hg : ∀ j ∈ x.refs, L2[j]? = L[j]?) : rowOf L2 x = rowOf L x := by
  cases x with
  | own j ver len => simp only [rowOf]; rw [good_congr (hg j (by simp [DV.refs]))]
  | slc j off ver alen len => simp only [rowOf]; rw [good_congr (hg j (by simp [DV.refs]))]
  | inn j c k len => simp only [rowOf]; rw [innAt_congr (hg j (by simp [DV.refs]))]
  | _ => rfl
theorem convD_re {s d : TypeId} {x : DV} : convD T s d x L2 = (convD T s d x L).bind fun r => .leaf (r.1, L2) := by
  unfold convD
  cases T s with
  | none => rfl
  | some i =>
    cases T d with
    | none => rfl
    | some i2 =>
      obtain ⟨k, sz, fl, z, sm⟩ := i2
      cases k with
      | flt k => cases x with
        | flt k' b => cases k <;> cases k' <;> rfl
        | _ => cases k <;> rfl
      | _ => cases x <;> rfl
theorem pickD_re {c x y : DV} : pickD c x y L2 = (pickD c x y L).bind fun r => .leaf (r.1, L2) := by
  unfold pickD
  cases c with
  | lit b => cases b <;> rfl
  | _ => rfl
theorem extractD_re {t : DV} {i : Nat} : extractD t i L2 = (extractD t i L).bind fun r => .leaf (r.1, L2) := by
  unfold extractD
  cases t with
  | tup vs => simp only; cases vs[i]? <;> rfl
  | _ => rfl
theorem okC_congr {c : DV} (hg : ∀ j ∈ c.refs, L2[j]? = L[j]?) : okC L2 c = okC L c := by
  cases c with
  | ptr j off ver alen => simp only [okC, good_congr (ver := ver) (hg j (by simp [DV.refs]))]
  | own j ver len => simp only [okC, good_congr (ver := ver) (hg j (by simp [DV.refs]))]
  | slc j off ver alen len => simp only [okC, good_congr (ver := ver) (hg j (by simp [DV.refs]))]
  | nest j ver es len => simp only [okC, goodN_congr (ver := ver) (es := es) (hg j (by simp [DV.refs]))]
  | inn j c k len => simp only [okC, innAt_congr (c := c) (hg j (by simp [DV.refs]))]
  | _ => rfl
theorem allT_congr {α : Type} {p q : α → Bool} : ∀ {l : List α}, (∀ x ∈ l, p x = q x) → allT p l = allT q l
  | [], _ => rfl
  | x :: l, h => by
    simp only [allT]
    rw [h x (by simp), allT_congr (l := l) fun y hy => h y (by simp [hy])]
theorem cellsD_refs {v : DV} {vs : List DV} (h : cellsD v = some vs) : ∀ c ∈ vs, ∀ j ∈ c.refs, j ∈ v.refs := by
  cases v with
  | agg cs => simp only [cellsD, Option.some.injEq] at h; subst h; intro c hc j hj; simp only [DV.refs]; exact DVs.refs_mem.2 ⟨c, hc, hj⟩
  | _ => first | (simp only [cellsD, Option.some.injEq] at h; subst h; intro c hc j hj; rw [List.mem_singleton] at hc; subst hc; exact hj) | cases h
theorem fillD_congr {fs : List (Nat × TypeId)} : ∀ (parts : List (Nat × DV)) (cells : List DV), (∀ q ∈ parts, ∀ j ∈ q.2.refs, L2[j]? = L[j]?) → fillD L2 T fs cells parts = fillD L T fs cells parts
  | [], _, _ => rfl
  | (i, v) :: rest, cells, h => by
    simp only [fillD]
    cases fs[i]? with
    | none => rfl
    | some oft =>
      obtain ⟨o, ft⟩ := oft
      cases hc : cellsD v with
      | none => rfl
      | some cs =>
        simp only
        cases T ft with
        | none => rfl
        | some fi =>
          simp only
          rw [allT_congr (p := okC L2) (q := okC L) fun c hcm => okC_congr fun j hj => h (i, v) (by simp) j (cellsD_refs hc c hcm j hj)]
          rw [fillD_congr rest _ fun q hq => h q (by simp [hq])]
theorem buildD_re {t : TypeId} {parts : List (Nat × DV)} (h : ∀ q ∈ parts, ∀ j ∈ q.2.refs, L2[j]? = L[j]?) : buildD T t parts L2 = (buildD T t parts L).bind fun r => .leaf (r.1, L2) := by
  unfold buildD
  cases T t with
  | none => rfl
  | some i =>
    obtain ⟨k, sz, fl, z, sm⟩ := i
    cases k with
    | struct fs =>
      cases z with
      | none => rfl
      | some z =>
        cases z with
        | agg zc => simp only; rw [fillD_congr parts zc h]; cases fillD L T fs zc parts <;> rfl
        | _ => rfl
    | _ => rfl

/-! what an operation hangs on: of a block its contents (2j), or no more than its kind, length and number (2j+1) -/
def Col.tag : Col → Option (List Nat)
  | .pl _ => none
  | .sl inn _ => some ((List.range inn.n).map fun k => (inn.get (k + 1)).len)
def DBlk.tag : DBlk → Nat × Nat × Nat × List (Option (List Nat))
  | .row r v => (0, r.len, v, [])
  | .gen cs _ v => (1, cs.length, v, [])
  | .nest cols _ v => (2, colsN cols * cols.length, v, cols.map Col.tag)
  | .gone n v => (3, n, v, [])
def EqAt (L' L : List DBlk) (k : Nat) : Prop := (k % 2 = 0 → L'[k / 2]? = L[k / 2]?) ∧ (L'[k / 2]?).map DBlk.tag = (L[k / 2]?).map DBlk.tag
theorem EqAt.refl (L : List DBlk) (k : Nat) : EqAt L L k := ⟨fun _ => rfl, rfl⟩
theorem EqAt.symm {L L' : List DBlk} {k : Nat} (h : EqAt L' L k) : EqAt L L' k := ⟨fun e => (h.1 e).symm, h.2.symm⟩
theorem EqAt.trans {L L' L'' : List DBlk} {k : Nat} (h : EqAt L'' L' k) (h' : EqAt L' L k) : EqAt L'' L k := ⟨fun e => (h.1 e).trans (h'.1 e), h.2.trans h'.2⟩
def weakO (o : Oper) : Bool := match o.op with | .move _ => true | .assign _ => true | .nilCheck _ => true | .fieldAddr _ _ _ => true | _ => false
/-- The blocks that an operation's operands lead to. -/
def foot0 (e : List DV) (o : Oper) : List Nat := DVs.refs (o.op.operands.toList.map (evD e))
theorem foot0_mem {e : List DV} {o : Oper} {y : Operand} (hy : y ∈ o.op.operands) {j : Nat} (hj : j ∈ (evD e y).refs) : j ∈ foot0 e o :=
  DVs.refs_mem.2 ⟨_, List.mem_map.2 ⟨y, by simpa using hy, rfl⟩, hj⟩
def foot (e : List DV) (o : Oper) : List Nat := match weakO o with | true => (foot0 e o).map (fun j => 2 * j + 1) | false => (foot0 e o).map (fun j => 2 * j)
theorem foot_tag {L2 L : List DBlk} {e : List DV} {o : Oper} (h : ∀ k ∈ foot e o, EqAt L2 L k) {y : Operand} (hy : y ∈ o.op.operands) {j : Nat} (hj : j ∈ (evD e y).refs) : (L2[j]?).map DBlk.tag = (L[j]?).map DBlk.tag := by
  have hm := foot0_mem hy hj
  unfold foot at h
  split at h
  · have := (h (2 * j + 1) (List.mem_map.2 ⟨j, hm, rfl⟩)).2
    rwa [show (2 * j + 1) / 2 = j from by omega] at this
  · have := (h (2 * j) (List.mem_map.2 ⟨j, hm, rfl⟩)).2
    rwa [show (2 * j) / 2 = j from by omega] at this
theorem foot_con {L2 L : List DBlk} {e : List DV} {o : Oper} (hw : weakO o = false) (h : ∀ k ∈ foot e o, EqAt L2 L k) {y : Operand} (hy : y ∈ o.op.operands) {j : Nat} (hj : j ∈ (evD e y).refs) : L2[j]? = L[j]? := by
  have hm := foot0_mem hy hj
  unfold foot at h
  rw [hw] at h
  have := (h (2 * j) (List.mem_map.2 ⟨j, hm, rfl⟩)).1 (by omega)
  rwa [show (2 * j) / 2 = j from by omega] at this
theorem tag_get {L2 L : List DBlk} {j : Nat} {b : DBlk} (h : (L2[j]?).map DBlk.tag = (L[j]?).map DBlk.tag) (hb : L[j]? = some b) : ∃ b', L2[j]? = some b' ∧ b'.tag = b.tag := by
  rw [hb] at h
  obtain ⟨b', h1, h2⟩ := Option.map_eq_some_iff.1 h
  exact ⟨b', h1, h2⟩
theorem tag_clen {b b' : DBlk} (h : b'.tag = b.tag) : b'.clen = b.clen ∧ b'.ver = b.ver := by
  cases b <;> cases b' <;> simp_all [DBlk.tag, DBlk.clen, DBlk.ver]
theorem tag_gone {b b' : DBlk} (h : b'.tag = b.tag) : (∃ n v, b = .gone n v ∧ b' = .gone n v) ∨ ((∀ n v, b ≠ .gone n v) ∧ ∀ n v, b' ≠ .gone n v) := by
  cases b <;> cases b' <;> simp_all [DBlk.tag]
theorem good_of {j ver : Nat} {b : DBlk} (hb : L[j]? = some b) (hn : ∀ n v, b ≠ .gone n v) : good L j ver = match Nat.beq b.ver ver with | true => some b | false => none := by
  unfold good
  rw [hb]
  cases b with
  | gone n v => exact (hn n v rfl).elim
  | _ => rfl
theorem good_tag {L2 L : List DBlk} {j ver : Nat} (h : (L2[j]?).map DBlk.tag = (L[j]?).map DBlk.tag) :
    (good L2 j ver = none ∧ good L j ver = none) ∨ ∃ b b', good L2 j ver = some b' ∧ good L j ver = some b ∧ b'.tag = b.tag := by
  cases hb : L[j]? with
  | none =>
    rw [hb] at h
    have : L2[j]? = none := by simpa using h
    unfold good
    rw [this, hb]; exact .inl ⟨rfl, rfl⟩
  | some b =>
    obtain ⟨b', h1, h2⟩ := tag_get h hb
    rcases tag_gone h2 with ⟨n, v, rfl, rfl⟩ | ⟨g1, g2⟩
    · unfold good
      rw [h1, hb]; exact .inl ⟨rfl, rfl⟩
    · rw [good_of hb g1, good_of h1 g2, (tag_clen h2).2]
      cases Nat.beq b.ver ver with
      | true => exact .inr ⟨b, b', rfl, rfl, h2⟩
      | false => exact .inl ⟨rfl, rfl⟩
theorem goodN_tag {L2 L : List DBlk} {j ver es : Nat} (h : (L2[j]?).map DBlk.tag = (L[j]?).map DBlk.tag) :
    (goodN L2 j ver es = none ∧ goodN L j ver es = none) ∨ ∃ q q', goodN L2 j ver es = some q' ∧ goodN L j ver es = some q := by
  unfold goodN
  rcases good_tag (ver := ver) h with ⟨h1, h2⟩ | ⟨b, b', h1, h2, h3⟩
  · rw [h1, h2]; exact .inl ⟨rfl, rfl⟩
  · rw [h1, h2]
    cases b <;> cases b' <;> first | exact .inl ⟨rfl, rfl⟩ | (simp [DBlk.tag] at h3; done) | skip
    rename_i cols fl v cols' fl' v'
    have hl : cols'.length = cols.length := by
      have := congrArg (fun t => t.2.2.2.length) h3
      simpa [DBlk.tag] using this
    simp only [hl]
    cases Nat.beq cols.length es <;> cases Nat.ble 1 es <;> first | exact .inl ⟨rfl, rfl⟩ | exact .inr ⟨_, _, rfl, rfl⟩
theorem InnOk.tag {L2 L : List DBlk} {j c k len : Nat} (h : (L2[j]?).map DBlk.tag = (L[j]?).map DBlk.tag) (hi : InnOk L j c k len) : InnOk L2 j c k len := by
  refine ⟨hi.1, ?_⟩
  rcases hi.2 with ⟨n, v, h1⟩ | ⟨cols, fl, v, inn, idx, h1, h2, h3, h4⟩
  · obtain ⟨b', k1, k2⟩ := tag_get h h1
    cases b' <;> simp [DBlk.tag] at k2
    exact .inl ⟨_, _, k1⟩
  · obtain ⟨b', k1, k2⟩ := tag_get h h1
    cases b' <;> simp [DBlk.tag] at k2
    rename_i cols' fl' v'
    obtain ⟨_, _, k3⟩ := k2
    have e := congrArg (fun l => l[c]?) k3
    simp only [List.getElem?_map, h2, Option.map_some] at e
    obtain ⟨z, z1, z2⟩ := Option.map_eq_some_iff.1 e
    cases z with
    | pl r => simp [Col.tag] at z2
    | sl inn' idx' =>
      simp only [Col.tag, Option.some.injEq] at z2
      have hn : inn'.n = inn.n := by have := congrArg List.length z2; simpa using this
      refine .inr ⟨_, _, _, inn', idx', k1, z1, by omega, ?_⟩
      rw [h4]
      cases k with
      | zero => rw [inn.get0, inn'.get0]
      | succ m =>
        have := congrArg (fun l => l[m]?) z2
        simp only [List.getElem?_map, List.getElem?_range (show m < inn'.n by omega), List.getElem?_range (show m < inn.n by omega), Option.map_some, Option.some.injEq] at this
        exact this.symm
theorem nilCheckD_tag {x : DV} (hg : ∀ j ∈ x.refs, (L2[j]?).map DBlk.tag = (L[j]?).map DBlk.tag) : nilCheckD x L2 = (nilCheckD x L).bind fun r => .leaf (r.1, L2) := by
  unfold nilCheckD
  cases x with
  | ptr j off ver alen =>
    rcases good_tag (ver := ver) (hg j (by simp [DV.refs])) with ⟨h1, h2⟩ | ⟨b, b', h1, h2, _⟩
    · simp only [h1, h2]; rfl
    · simp only [h1, h2]; rfl
  | ncell j ver es len i c =>
    rcases goodN_tag (ver := ver) (es := es) (hg j (by simp [DV.refs])) with ⟨h1, h2⟩ | ⟨q, q', h1, h2⟩
    · simp only [h1, h2]; rfl
    · simp only [h1, h2]; rfl
  | _ => rfl
theorem fieldAddrD_tag {s : TypeId} {x : DV} {f : Nat} (hg : ∀ j ∈ x.refs, (L2[j]?).map DBlk.tag = (L[j]?).map DBlk.tag) : fieldAddrD T s x f L2 = (fieldAddrD T s x f L).bind fun r => .leaf (r.1, L2) := by
  unfold fieldAddrD
  cases T s with
  | none => rfl
  | some i =>
    obtain ⟨k, sz, fl, z, sm⟩ := i
    cases k with
    | struct fs =>
      simp only
      cases fs[f]? with
      | none => rfl
      | some oft =>
        obtain ⟨o, ft⟩ := oft
        simp only
        cases T ft with
        | none => rfl
        | some i2 =>
          simp only
          cases Nat.ble 1 i2.size with
          | false => cases x <;> rfl
          | true =>
            cases x with
            | ptr j off ver alen =>
              rcases good_tag (ver := ver) (hg j (by simp [DV.refs])) with ⟨h1, h2⟩ | ⟨b, b', h1, h2, h3⟩
              · simp only [h1, h2]; rfl
              · simp only [h1, h2]
                cases b <;> cases b' <;> first | rfl | (simp [DBlk.tag] at h3; done) | skip
                rename_i cs fl v cs' fl' v'
                have : cs'.length = cs.length := by simp [DBlk.tag] at h3; exact h3.1
                simp only [this]
                cases Nat.ble (off + o + 1) cs.length <;> rfl
            | ncell j ver es len x c =>
              rcases goodN_tag (ver := ver) (es := es) (hg j (by simp [DV.refs])) with ⟨h1, h2⟩ | ⟨q, q', h1, h2⟩
              · simp only [h1, h2]; rfl
              · simp only [h1, h2]
                cases Nat.ble (c + o + 1) es <;> rfl
            | bptr p cs => simp only; cases Nat.ble (o + 1) cs.length <;> rfl
            | _ => rfl
    | _ => rfl
theorem light_re {e : List DV} {o : Oper} (hl : heavy o = false) (hg : ∀ k ∈ foot e o, EqAt L2 L k) : opD T DO e L2 o = (opD T DO e L o).bind fun r => .leaf (r.1, L2) := by
  have hg1 : ∀ y ∈ o.op.operands, ∀ j ∈ (evD e y).refs, (L2[j]?).map DBlk.tag = (L[j]?).map DBlk.tag := fun y hy j hj => foot_tag hg hy hj
  have hg0 : weakO o = false → ∀ y ∈ o.op.operands, ∀ j ∈ (evD e y).refs, L2[j]? = L[j]? := fun hw y hy j hj => foot_con hw hg hy hj
  obtain ⟨dst, op, type, pos, after, guard⟩ := o
  simp only at hg1 hg0
  cases op <;> simp [heavy] at hl <;> simp only [opD]
  case move => rfl
  case assign => rfl
  case pick => exact pickD_re
  case build t ps =>
    refine buildD_re fun q hq j hj => ?_
    rw [List.mem_map] at hq
    obtain ⟨w, hw, rfl⟩ := hq
    exact hg0 rfl w.2 (by simp only [Op.operands]; simp; exact ⟨w.1, by simpa using hw⟩) j hj
  case load t a => exact loadD_re (hg0 rfl a (by simp [Op.operands]))
  case nilCheck a => exact nilCheckD_tag (hg1 a (by simp [Op.operands]))
  case binOp op t x y u => exact binD_re (hg0 rfl x (by simp [Op.operands]))
  case unOp => exact unD_re
  case convert s d x =>
    have hd : Nat.beq d bytesT = false := by
      cases hb : Nat.beq d bytesT with
      | false => rfl
      | true => exact absurd (Nat.eq_of_beq_eq_true hb) hl
    have hx := hg0 rfl x (by simp [Op.operands])
    simp only [convHD, hd]
    have sc : convSD T s d (evD e x) L2 = (convSD T s d (evD e x) L).bind fun r => .leaf (r.1, L2) := by
      unfold convSD
      rw [rowOf_congr hx]
      repeat' split
      all_goals rfl
    cases hv : evD e x <;> simp only [hv] at sc ⊢ <;> first | exact sc | exact convD_re
  case makeFunc fn first cap =>
    cases fn with
    | func f => simp only; cases first.toList <;> rfl
    | _ => rfl
  case slice t x lo hi mx =>
    cases mx with
    | none => exact sliceD_re (hg0 rfl x (by simp [Op.operands]))
    | some m => exact slice3D_re (hg0 rfl x (by simp [Op.operands]))
  case fieldAddr s x f => exact fieldAddrD_tag (hg1 x (by simp [Op.operands]))
  case field => exact fieldD_re
  case indexAddr t x y => exact indexAddrD_re (hg0 rfl x (by simp [Op.operands]))
  case index => exact indexD_re
  case extract => exact extractD_re
  case call c =>
    obtain ⟨callee, args, argTypes⟩ := c
    cases callee with
    | builtin b =>
      simp only
      unfold builtinD
      have ha : ∀ a ∈ args.toList.map (evD e), ∀ j ∈ a.refs, L2[j]? = L[j]? := fun a ha j hj => by
        rw [List.mem_map] at ha
        obtain ⟨y, hy, rfl⟩ := ha
        exact hg0 rfl y (by simp [Op.operands, Call.operands]; simpa using hy) j hj
      generalize args.toList.map (evD e) = as at ha
      split
      · exact lenD_re (ha _ (by simp))
      · simp at hl
      · simp at hl
      · rename_i x y
        unfold maxD
        cases x with
        | int k a => cases y with
          | int k' b => cases k <;> cases k' <;> rfl
          | _ => cases k <;> rfl
        | flt k a => cases y with
          | flt k' b => cases k <;> cases k' <;> rfl
          | _ => cases k <;> rfl
        | _ => rfl
      · rename_i x y
        unfold minD
        cases x with
        | int k a => cases y with
          | int k' b => cases k <;> cases k' <;> rfl
          | _ => cases k <;> rfl
        | _ => rfl
      · rfl
    | value f => simp at hl
    | _ => rfl
  all_goals rfl
theorem light_foot {e : List DV} {o : Oper} (hl : heavy o = false) {x : DV} {L' : List DBlk} (h : (opD T DO e L o).run = some (x, L')) : L' = L ∧ ∀ L2, (∀ k ∈ foot e o, EqAt L2 L k) → (opD T DO e L2 o).run = some (x, L2) := by
  have h2 : ∀ L2, (∀ k ∈ foot e o, EqAt L2 L k) → (opD T DO e L2 o).run = some (x, L2) := fun L2 hg => by
    rw [light_re hl hg, Tree.run_bind, h]; rfl
  have := h2 L fun _ _ => EqAt.refl _ _
  rw [h] at this
  cases this
  exact ⟨rfl, h2⟩

/-- The blocks that a heavy operation may turn. -/
def touch0 (M : FuncId → Bool) (L : List DBlk) (e : List DV) (o : Oper) : List Nat :=
  match o.op with
  | .store _ a y => (evD e a).refs ++ (match evD e a with | .ptr _ _ _ _ => [] | _ => (evD e y).refs)
  | .buildSlice t _ ps => (match nestT t with | true => DVs.refs (ps.toList.map fun q => evD e q.2) | false => [])
  | .call { callee := .builtin _, args := args, argTypes := _ } => DVs.refs (args.toList.map (evD e))
  | .call { callee := .value f, args := args, argTypes := _ } => (match evD e f with | .fn g caps => (match M g with | true => [] | false => reach L (args.toList.map (evD e) ++ caps)) | _ => [])
  | _ => []
theorem putC_get {j ver : Nat} {fl : Bool} {cols : List Col} {x c : Nat} {v : DV} {L' : List DBlk} (h : putC L j ver fl cols x c v = some L') {i : Nat} (hi : i ≠ j) (hv : i ∉ v.refs) : L'[i]? = L[i]? := by
  unfold putC at h
  have hs : ∀ (b : DBlk) (K : List DBlk), (K.set j b)[i]? = K[i]? := fun b K => by rw [List.getElem?_set, if_neg (fun e => hi e.symm)]
  split at h
  · split at h
    · cases h; exact hs _ _
    · cases h
  · split at h
    · cases h; exact hs _ _
    · split at h
      · cases h; exact hs _ _
      · cases h
    · rename_i j' ver' len
      simp only [DV.refs, List.mem_singleton] at hv
      split at h
      · split at h
        · cases h
          rw [hs, List.getElem?_set, if_neg (fun e => hv e.symm)]
        · cases h
      · cases h
    · cases h
  · cases h
theorem putN_get {j x : Nat} : ∀ (vs : List DV) (L L' : List DBlk) (c : Nat), putN j x L c vs = some L' → ∀ i, i ≠ j → i ∉ DVs.refs vs → L'[i]? = L[i]?
  | [], L, L', c, h, i, hi, hv => by simp only [putN, Option.some.injEq] at h; rw [h]
  | v :: vs, L, L', c, h, i, hi, hv => by
    simp only [DVs.refs, List.mem_append, not_or] at hv
    simp only [putN] at h
    split at h
    · split at h
      · rename_i hput
        exact (putN_get vs _ _ _ h i hi hv.2).trans (putC_get hput hi hv.1)
      · cases h
    · cases h
theorem push_get {b : DBlk} {j : Nat} (hj : j < L.length) : (L ++ [b])[j]? = L[j]? := List.getElem?_append_left hj
theorem set_get' {b : DBlk} {i j : Nat} (h : j ≠ i) : (L.set i b)[j]? = L[j]? := by rw [List.getElem?_set, if_neg (fun e => h e.symm)]
end

section
variable {P : Program} {T : TyT} {F : Fr} {L L2 : List DBlk} {H : Heap} {DO : DOr} {M : FuncId → Bool}
theorem touch0_ok (hO : OrcOk P DO M) (hs : St F L H) {e : List DV} (he : DVs.Ok F L e) {o : Oper} {x : DV} {L' : List DBlk} (h : (opD T DO e L o).run = some (x, L')) : ∀ j, j < L.length → j ∉ touch0 M L e o → L'[j]? = L[j]? := by
  intro j hj hn
  cases hl : heavy o with
  | false => rw [(light_foot hl h).1]
  | true =>
    obtain ⟨dst, op, type, pos, after, guard⟩ := o
    have alloc : ∀ (e' : TypeId) (v : Option DV), (allocD T e' v L).run = some (x, L') → L'[j]? = L[j]? := by
      intro e' v h
      unfold allocD at h
      split at h
      · split at h
        · obtain ⟨cs, _, h⟩ := optT_run h
          split at h
          · simp only [Tree.run, Option.some.injEq, Prod.mk.injEq] at h
            obtain ⟨_, rfl⟩ := h
            exact push_get hj
          · cases h
        · cases h
      · cases h
    cases op <;> simp [heavy] at hl <;> simp only [opD] at h
    case alloc => exact alloc _ _ h
    case box => exact alloc _ _ h
    case convert s d y =>
      unfold convHD at h
      rw [hl, Nat.beq_refl] at h
      simp only at h
      unfold convBD at h
      split at h
      · split at h
        · simp only [Tree.run] at h
          split at h
          · simp only [Option.some.injEq, Prod.mk.injEq] at h
            obtain ⟨_, rfl⟩ := h; rfl
          · cases h
        · cases h
      · split at h
        · simp only [Tree.run] at h
          split at h
          · simp only [Option.some.injEq, Prod.mk.injEq] at h
            obtain ⟨_, rfl⟩ := h
            exact push_get hj
          · cases h
        · cases h
      · cases h
    case buildSlice t n ps =>
      unfold buildSliceD at h
      split at h
      · split at h
        · split at h
          · obtain ⟨r, _, h⟩ := optT_run h
            simp only [Tree.run, Option.some.injEq, Prod.mk.injEq] at h
            obtain ⟨_, rfl⟩ := h
            exact push_get hj
          · cases h
        · split at h
          · rename_i vs hnt _ hps
            simp only [touch0, hnt] at hn
            have hvs : ∀ v ∈ vs, j ∉ v.refs := fun v hv hm => hn (DVs.refs_mem.2 ⟨v, by
              obtain ⟨p1, p2⟩ := partsD_spec _ 0 vs hps
              have h2 : (ps.toList.map fun q => (q.1, evD e q.2)).map (·.2) = vs := by rw [p1, List.map_snd_zip]; simp
              rw [← h2, List.map_map] at hv
              exact hv, hm⟩)
            unfold buildND at h
            split at h
            · split at h
              · simp only [Tree.run, Option.some.injEq, Prod.mk.injEq] at h
                obtain ⟨_, rfl⟩ := h
                exact push_get hj
              · obtain ⟨cs, hcs, h⟩ := optT_run h
                split at h
                · obtain ⟨L1, hL1, h⟩ := optT_run h
                  simp only [Tree.run, Option.some.injEq, Prod.mk.injEq] at h
                  obtain ⟨_, rfl⟩ := h
                  refine (putN_get cs _ _ _ hL1 j (by omega) fun hm => ?_).trans (push_get hj)
                  obtain ⟨c, hc, hm⟩ := DVs.refs_mem.1 hm
                  exact hvs _ (by simp) (cellsD_refs hcs c hc j hm)
                · cases h
              · split at h
                · simp only [Tree.run, Option.some.injEq, Prod.mk.injEq] at h
                  obtain ⟨_, rfl⟩ := h
                  exact push_get hj
                · cases h
              · cases h
            · cases h
          · cases h
        · cases h
      · cases h
    case makeSlice =>
      unfold makeD at h
      split at h
      · split at h
        · split at h
          · simp only [Tree.run] at h
            split at h
            · split at h
              · simp only [Option.some.injEq, Prod.mk.injEq] at h
                obtain ⟨_, rfl⟩ := h
                exact push_get hj
              · cases h
            · cases h
          · cases h
        · split at h
          · simp only [Tree.run] at h
            split at h
            · split at h
              · unfold makeND at h
                split at h
                · split at h
                  · split at h
                    · simp only [Tree.run, Option.some.injEq, Prod.mk.injEq] at h
                      obtain ⟨_, rfl⟩ := h
                      exact push_get hj
                    · cases h
                  · cases h
                · cases h
              · cases h
            · cases h
          · cases h
        · cases h
      · cases h
    case store t a y =>
      simp only [touch0] at hn
      unfold storeD at h
      split at h
      · rename_i j' off ver alen hTi hp
        rw [hp] at hn
        simp only [DV.refs, List.append_nil, List.mem_singleton] at hn
        split at h
        · split at h
          · obtain ⟨r', _, h⟩ := optT_run h
            simp only [Tree.run, Option.some.injEq, Prod.mk.injEq] at h
            obtain ⟨_, rfl⟩ := h
            exact set_get' hn
          · cases h
        · obtain ⟨vs, _, h⟩ := optT_run h
          split at h
          · simp only [Tree.run, Option.some.injEq, Prod.mk.injEq] at h
            obtain ⟨_, rfl⟩ := h
            exact set_get' hn
          · cases h
        · cases h
      · rename_i j' ver es len x0 c0 hTi hp
        rw [hp] at hn
        simp only [DV.refs, List.mem_append, List.mem_singleton, not_or] at hn
        obtain ⟨vs, hvs, h⟩ := optT_run h
        split at h
        · obtain ⟨L1, hL1, h⟩ := optT_run h
          simp only [Tree.run, Option.some.injEq, Prod.mk.injEq] at h
          obtain ⟨_, rfl⟩ := h
          refine putN_get vs _ _ _ hL1 j hn.1 fun hm => ?_
          obtain ⟨c, hc, hm⟩ := DVs.refs_mem.1 hm
          exact hn.2 (cellsD_refs hvs c hc j hm)
        · cases h
      · rename_i j' c0 k0 x0 len hTi hp
        rw [hp] at hn
        simp only [DV.refs, List.mem_append, List.mem_singleton, not_or] at hn
        split at h
        · split at h
          · obtain ⟨r, _, h⟩ := optT_run h
            obtain ⟨inn', _, h⟩ := optT_run h
            simp only [Tree.run, Option.some.injEq, Prod.mk.injEq] at h
            obtain ⟨_, rfl⟩ := h
            exact set_get' hn.1
          · cases h
        · cases h
      · cases h
    case call c =>
      obtain ⟨callee, args, argTypes⟩ := c
      cases callee with
      | builtin b =>
        simp only [touch0] at hn
        simp only at h
        unfold builtinD at h
        generalize args.toList.map (evD e) = as at hn h
        split at h
        · simp at hl
        · rename_i t tx s y
          simp only [DVs.refs, List.mem_append, not_or] at hn
          unfold appendD at h
          split at h
          · split at h
            · split at h
              · rename_i j' ver len
                split at h
                · simp only [Tree.run, Option.some.injEq, Prod.mk.injEq] at h
                  obtain ⟨_, rfl⟩ := h; rfl
                · cases h
              · rename_i j' ver len _ _
                have hn1 := hn.1
                simp only [DV.refs, List.mem_singleton] at hn1
                split at h
                · obtain ⟨r', _, h⟩ := optT_run h
                  simp only [Tree.run] at h
                  split at h
                  · simp only [Option.some.injEq, Prod.mk.injEq] at h
                    obtain ⟨_, rfl⟩ := h
                    exact set_get' hn1
                  · cases h
                · cases h
              · split at h
                · simp only [Tree.run] at h
                  split at h
                  · split at h
                    · split at h
                      · cases h
                      simp only [Tree.run, Option.some.injEq, Prod.mk.injEq] at h
                      obtain ⟨_, rfl⟩ := h; rfl
                    · simp only [Option.some.injEq, Prod.mk.injEq] at h
                      obtain ⟨_, rfl⟩ := h
                      exact push_get hj
                  · cases h
                · cases h
              · rename_i j' off ver alen len
                have hn1 := hn.1
                simp only [DV.refs, List.mem_singleton] at hn1
                split at h
                · rw [Tree.run] at h
                  split at h
                  case isFalse => cases h
                  obtain ⟨r', _, h⟩ := optT_run h
                  simp only [Tree.run, Option.some.injEq, Prod.mk.injEq] at h
                  obtain ⟨_, rfl⟩ := h
                  exact set_get' hn1
                · cases h
              · cases h
            · split at h
              · rename_i j' ver es len j1 ver1 es1 len1
                have hn1 := hn.1
                have hn2 := hn.2
                simp only [DV.refs, DVs.refs, List.append_nil, List.mem_singleton] at hn1 hn2
                unfold appendND at h
                split at h
                · have h : ∃ cols' fl', (Tree.grd (fits (len + len1)) (.leaf (.nest j' (ver + 1) es (len + len1), (L.set j1 (.gone (len1 * es1) (ver1 + 1))).set j' (.nest cols' fl' (ver + 1)))) : Tree Rs).run = some (x, L') := by
                    split at h
                    · cases h
                    · obtain ⟨cols', _, h⟩ := optT_run h; exact ⟨cols', _, h⟩
                  obtain ⟨cols', fl', h⟩ := h
                  simp only [Tree.run] at h
                  split at h
                  · simp only [Option.some.injEq, Prod.mk.injEq] at h
                    obtain ⟨_, rfl⟩ := h
                    rw [set_get' hn1, set_get' hn2.1]
                  · cases h
                · cases h
              · cases h
            · cases h
          · split at h
            · unfold appendSD at h
              split at h
              · split at h
                · rename_i j' ver len
                  have hn1 := hn.1
                  simp only [DV.refs, List.mem_singleton] at hn1
                  split at h
                  · obtain ⟨r', _, h⟩ := optT_run h
                    simp only [Tree.run] at h
                    split at h
                    · simp only [Option.some.injEq, Prod.mk.injEq] at h
                      obtain ⟨_, rfl⟩ := h
                      exact set_get' hn1
                    · cases h
                  · cases h
                · cases h
              · cases h
            · cases h
          · cases h
        · rename_i t x
          unfold clearD at h
          split at h
          · split at h
            · split at h
              · simp only [Tree.run, Option.some.injEq, Prod.mk.injEq] at h
                obtain ⟨_, rfl⟩ := h; rfl
              · rename_i j' ver len
                simp only [DVs.refs, DV.refs, List.mem_append, List.mem_singleton, not_or] at hn
                split at h
                · obtain ⟨r', _, h⟩ := optT_run h
                  simp only [Tree.run, Option.some.injEq, Prod.mk.injEq] at h
                  obtain ⟨_, rfl⟩ := h
                  exact set_get' hn.1
                · cases h
              · rename_i j' off ver alen len
                simp only [DVs.refs, DV.refs, List.mem_append, List.mem_singleton, not_or] at hn
                split at h
                · rw [Tree.run] at h
                  split at h
                  case isFalse => cases h
                  obtain ⟨r', _, h⟩ := optT_run h
                  simp only [Tree.run, Option.some.injEq, Prod.mk.injEq] at h
                  obtain ⟨_, rfl⟩ := h
                  exact set_get' hn.1
                · cases h
              · cases h
            · cases h
          · cases h
        · simp at hl
        · simp at hl
        · cases h
      | value f =>
        simp only [touch0] at hn
        simp only at h
        split at h
        · rename_i g caps hf
          rw [hf] at hn
          simp only at hn
          have hok : DVs.Ok F L (args.toList.map (evD e) ++ caps) := DVs.ok_iff.2 fun c hc => by
            rcases List.mem_append.1 hc with h | h
            · exact DVs.ok_iff.1 (evD_oks he _) c h
            · have := evD_ok he f
              rw [hf] at this
              exact DVs.ok_iff.1 this c h
          obtain ⟨F', H', _, _, _, _, _, k⟩ := hO F L H g _ x L' hs hok h
          refine k j hj ?_
          cases hM : M g with
          | true => exact .inl rfl
          | false => rw [hM] at hn; exact .inr hn
        · cases h
      | _ => cases h
/-- A store that leaves every block's kind, length and number. -/
def keepsTag (p v : DV) : Bool :=
  match p with
  | .ptr _ _ _ _ => true
  | .icell _ _ _ _ _ => true
  | .ncell _ _ _ _ _ _ => (match v with | .own _ _ _ => false | .agg _ => false | _ => true)
  | _ => false
theorem Col.tag_pl {cols : List Col} {c : Nat} {q q' : Col} (hc : cols[c]? = some q) (h : q'.tag = q.tag) : (cols.set c q').map Col.tag = cols.map Col.tag := by
  rw [List.map_set, h]
  refine List.ext_getElem? fun i => ?_
  rw [List.getElem?_set]
  by_cases e : c = i
  · subst e
    have hl := (List.getElem?_eq_some_iff.1 hc).1
    rw [if_pos rfl, if_pos (by simpa using hl), List.getElem?_map, hc]; rfl
  · rw [if_neg e]
theorem putC_tag (F : Fr) {j ver : Nat} {fl : Bool} {cols : List Col} {x c : Nat} {v : DV} {L' : List DBlk} (hb : L[j]? = some (.nest cols fl ver)) (hv : ∀ a b d, v ≠ .own a b d) (h : putC L j ver fl cols x c v = some L') : ∃ cols', L' = L.set j (.nest cols' fl ver) ∧ (DBlk.nest cols' fl ver).tag = (DBlk.nest cols fl ver).tag := by
  unfold putC at h
  split at h
  · rename_i r hc
    split at h
    · rename_i r' hr
      cases h
      have h2 := (Row.set_spec F hr).2.1
      have hl := (List.getElem?_eq_some_iff.1 hc).1
      refine ⟨_, rfl, ?_⟩
      simp only [DBlk.tag, colsN_set hc (show (Col.pl r').len = (Col.pl r).len from h2), List.length_set, Col.tag_pl hc (show (Col.pl r').tag = (Col.pl r).tag from rfl)]
    · cases h
  · rename_i inn idx hc
    have key : ∀ k, (DBlk.nest (cols.set c (.sl inn (idx.set x k))) fl ver).tag = (DBlk.nest cols fl ver).tag := fun k => by
      simp only [DBlk.tag, colsN_set hc (show (Col.sl inn (idx.set x k)).len = (Col.sl inn idx).len by simp [Col.len]), List.length_set, Col.tag_pl hc (show (Col.sl inn (idx.set x k)).tag = (Col.sl inn idx).tag from rfl)]
    split at h
    · cases h; exact ⟨_, rfl, key _⟩
    · split at h
      · cases h; exact ⟨_, rfl, key _⟩
      · cases h
    · exact (hv _ _ _ rfl).elim
    · cases h
  · cases h
theorem store_tag (F : Fr) {t : TypeId} {p v x : DV} {L' : List DBlk} (hok : p.Ok F L) (hp : keepsTag p v = true) (h : (storeD T t p v L).run = some (x, L')) (j : Nat) : (L'[j]?).map DBlk.tag = (L[j]?).map DBlk.tag := by
  have key : ∀ (i : Nat) (b b' : DBlk), L[i]? = some b → b'.tag = b.tag → ((L.set i b')[j]?).map DBlk.tag = (L[j]?).map DBlk.tag := fun i b b' h1 h2 => by
    rw [List.getElem?_set]
    by_cases hij : i = j
    · subst hij
      rw [if_pos rfl, if_pos (List.getElem?_eq_some_iff.1 h1).1, h1]; simp [h2]
    · rw [if_neg hij]
  have hput : ∀ (vs l : List DV) (o : Nat), (putD l o vs).length = l.length := by
    intro vs
    induction vs with
    | nil => intro l o; rfl
    | cons v vs ih => intro l o; simp only [putD]; rw [ih]; simp
  unfold storeD at h
  split at h
  · rename_i j' off ver alen hTi
    split at h
    · rename_i r v' hg
      split at h
      · obtain ⟨r', hr', h⟩ := optT_run h
        simp only [Tree.run, Option.some.injEq, Prod.mk.injEq] at h
        obtain ⟨_, rfl⟩ := h
        refine key _ _ _ (good_spec hg).1 ?_
        have : r'.len = r.len := (Row.set_spec F hr').2.1
        simp [DBlk.tag, this]
      · cases h
    · rename_i cs fl v' hg
      obtain ⟨vs, _, h⟩ := optT_run h
      split at h
      · simp only [Tree.run, Option.some.injEq, Prod.mk.injEq] at h
        obtain ⟨_, rfl⟩ := h
        refine key _ _ _ (good_spec hg).1 ?_
        simp [DBlk.tag, hput]
      · cases h
    · cases h
  · rename_i j' ver es len x0 c0 hTi
    obtain ⟨vs, hvs, h⟩ := optT_run h
    split at h
    · rename_i q hg _ _ _
      obtain ⟨L1, hL1, h⟩ := optT_run h
      simp only [Tree.run, Option.some.injEq, Prod.mk.injEq] at h
      obtain ⟨_, rfl⟩ := h
      have hv : vs = [v] ∧ ∀ a b d, v ≠ .own a b d := by
        cases v <;> first | (simp [keepsTag] at hp; done) | (simp [cellsD] at hvs; done) | (simp only [cellsD, Option.some.injEq] at hvs; subst hvs; exact ⟨rfl, by simp⟩)
      obtain ⟨rfl, hv⟩ := hv
      simp only [putN] at hL1
      split at hL1
      · rename_i cols fl ver' hb
        split at hL1
        · rename_i L2 hput
          cases hL1
          obtain ⟨cols', rfl, h2⟩ := putC_tag F hb hv hput
          exact key _ _ _ hb h2
        · cases hL1
      · cases hL1
    · cases h
  · rename_i j' c0 k0 x0 len hTi
    obtain ⟨hi, hk, _⟩ := hok
    split at h
    · rename_i cols fl ver hb _
      split at h
      · rename_i inn idx hc
        obtain ⟨r, hr, h⟩ := optT_run h
        obtain ⟨inn', hi', h⟩ := optT_run h
        simp only [Tree.run, Option.some.injEq, Prod.mk.injEq] at h
        obtain ⟨_, rfl⟩ := h
        refine key _ _ _ hb ?_
        have hkn : k0 ≤ inn.n := by
          rcases hi.2 with ⟨n, v', g1⟩ | ⟨cols', fl', v', inn2, idx2, g1, g2, g3, g4⟩
          · rw [hb] at g1; cases g1
          · rw [hb] at g1; cases g1
            rw [hc] at g2; cases g2; exact g3
        obtain ⟨s1, s2, s3⟩ := NRow.set_spec hi' hk hkn
        have e2 : r.len = (inn.get k0).len := (Row.set_spec F hr).2.1
        have ht : (Col.sl inn' idx).tag = (Col.sl inn idx).tag := by
          simp only [Col.tag, s1, Option.some.injEq]
          refine List.map_congr_left fun m _ => ?_
          by_cases hm : m + 1 = k0
          · rw [hm, s2]; exact e2
          · rw [s3 _ hm]
        simp only [DBlk.tag, colsN_set hc (show (Col.sl inn' idx).len = (Col.sl inn idx).len from rfl), List.length_set, Col.tag_pl hc ht]
      · cases h
    · cases h
  · cases h
def touch (M : FuncId → Bool) (L : List DBlk) (e : List DV) (o : Oper) : List Nat :=
  match (match o.op with | .store _ a y => keepsTag (evD e a) (evD e y) | _ => false) with
  | true => (touch0 M L e o).map (fun j => 2 * j)
  | false => (touch0 M L e o).map (fun j => 2 * j) ++ (touch0 M L e o).map (fun j => 2 * j + 1)
theorem touch_ok (hO : OrcOk P DO M) (hs : St F L H) {e : List DV} (he : DVs.Ok F L e) {o : Oper} {x : DV} {L' : List DBlk} (h : (opD T DO e L o).run = some (x, L')) : ∀ k, k / 2 < L.length → k ∉ touch M L e o → EqAt L' L k := by
  intro k hk hn
  have h0 := touch0_ok hO hs he h (k / 2) hk
  unfold touch at hn
  split at hn
  · rename_i hop
    split at hop
    · rename_i t a y hop'
      refine ⟨fun hk2 => h0 fun hm => hn (List.mem_map.2 ⟨_, hm, by omega⟩), ?_⟩
      unfold opD at h
      rw [hop'] at h
      exact store_tag F (evD_ok he a) hop h _
    · cases hop
  · simp only [List.mem_append, not_or] at hn
    have : L'[k / 2]? = L[k / 2]? := h0 fun hm => by
      rcases Nat.mod_two_eq_zero_or_one k with e | e
      · exact hn.1 (List.mem_map.2 ⟨_, hm, by omega⟩)
      · exact hn.2 (List.mem_map.2 ⟨_, hm, by omega⟩)
    exact ⟨fun _ => this, by rw [this]⟩
end
end Go.Proofs.Ytmgpbchacndndaa.AM
