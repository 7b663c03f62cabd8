/- The abstract machine, part 15: slices read as lists. -/
import Derived.Test.YtbhmllcnfdndhaaB5
set_option linter.unusedSimpArgs false
set_option linter.unusedVariables false
namespace Go.Proofs.Ytbhmllcnfdndhaa.AM

/-- How a cell reads as a datum. -/
structure Cd (α : Type) where mk ::
  en : α → AV
  un : AV → Option α
  h1 : ∀ x, un (en x) = some x
  h2 : ∀ v x, un v = some x → v = en x
  flat : ∀ x, (en x).isFlat = true

def unF : AV → Option Nat
  | .flt .f32 x => some x
  | _ => none
def unD : AV → Option Nat
  | .flt .f64 x => some x
  | _ => none
def unI : AV → Option Int
  | .int .i64 x => some x
  | _ => none
def unU8 : AV → Option Int
  | .int .u8 x => some x
  | _ => none
def unB : AV → Option Bool
  | .bool x => some x
  | _ => none
def cF : Cd Nat := ⟨.flt .f32, unF, fun _ => rfl, fun v x h => by unfold unF at h; split at h <;> cases h; rfl, fun _ => rfl⟩
def cD : Cd Nat := ⟨.flt .f64, unD, fun _ => rfl, fun v x h => by unfold unD at h; split at h <;> cases h; rfl, fun _ => rfl⟩
def cI : Cd Int := ⟨.int .i64, unI, fun _ => rfl, fun v x h => by unfold unI at h; split at h <;> cases h; rfl, fun _ => rfl⟩
def cU8 : Cd Int := ⟨.int .u8, unU8, fun _ => rfl, fun v x h => by unfold unU8 at h; split at h <;> cases h; rfl, fun _ => rfl⟩
def cB : Cd Bool := ⟨.bool, unB, fun _ => rfl, fun v x h => by unfold unB at h; split at h <;> cases h; rfl, fun _ => rfl⟩
@[simp] theorem cF_en (x : Nat) : cF.en x = .flt .f32 x := rfl
@[simp] theorem cD_en (x : Nat) : cD.en x = .flt .f64 x := rfl
@[simp] theorem cI_en (x : Int) : cI.en x = .int .i64 x := rfl
@[simp] theorem cU8_en (x : Int) : cU8.en x = .int .u8 x := rfl
@[simp] theorem cB_en (x : Bool) : cB.en x = .bool x := rfl

def maxL : Nat := 1073741824

/-- A slice as a list. -/
def rd {α : Type} (c : Cd α) (H : Heap) : AV → Option (List α)
  | .nilslc => some []
  | .slc r n =>
    match H[r.id]? with
    | some B => if r.ver = B.cells.length ∧ B.sz = 1 ∧ r.off + n ≤ B.cells.length ∧ n ≤ maxL then ((B.cells.drop r.off).take n).mapM c.un else none
    | none => none
  | _ => none

/-- The i-th place of a slice. -/
def AV.plc (s : AV) (i : Nat) : AV :=
  match s with
  | .slc r _ => .ptr ⟨r.id, r.off + i, r.ver⟩
  | _ => .top
/-- A part of a slice. -/
def AV.sub (s : AV) (lo hi : Nat) : AV :=
  match s with
  | .slc r _ => .slc ⟨r.id, r.off + lo, r.ver⟩ (hi - lo)
  | v => v

theorem mapM_un {α : Type} (c : Cd α) : ∀ (l : List AV) (xs : List α), l.mapM c.un = some xs → l = xs.map c.en
  | [], xs, h => by simp at h; subst h; rfl
  | v :: l, xs, h => by
    rw [List.mapM_cons] at h
    cases h1 : c.un v with
    | none => rw [h1] at h; cases h
    | some x =>
      cases h2 : l.mapM c.un with
      | none => rw [h1, h2] at h; cases h
      | some ys =>
        rw [h1, h2] at h
        simp at h
        subst h
        rw [mapM_un c l ys h2, c.h2 v x h1]; rfl
@[simp] theorem mapM_mk {α : Type} (c : Cd α) (xs : List α) : (xs.map c.en).mapM c.un = some xs := by
  induction xs with
  | nil => rfl
  | cons x xs ih => rw [List.map_cons, List.mapM_cons, c.h1, ih]; rfl

section
variable {α : Type} {c : Cd α} {P : Program} {H : Heap} {s : AV} {xs : List α}

theorem rd_inv (h : rd c H s = some xs) : (s = .nilslc ∧ xs = []) ∨ ∃ r B, s = .slc r xs.length ∧ H[r.id]? = some B ∧ r.ver = B.cells.length ∧ B.sz = 1 ∧ r.off + xs.length ≤ B.cells.length ∧
    (B.cells.drop r.off).take xs.length = xs.map c.en ∧ xs.length ≤ maxL := by
  unfold rd at h
  split at h
  · cases h; exact .inl ⟨rfl, rfl⟩
  · rename_i r n
    split at h
    · rename_i B hB
      split at h
      · rename_i hk
        have := mapM_un c _ _ h
        have hl : xs.length = n := by
          have h1 := congrArg List.length this
          simp at h1; omega
        subst hl
        exact .inr ⟨r, B, rfl, hB, hk.1, hk.2.1, hk.2.2.1, this, hk.2.2.2⟩
      · cases h
    · cases h
  · cases h

theorem rd_mk {r : Ref} {B : Blk} (hB : H[r.id]? = some B) (hv : r.ver = B.cells.length) (hs : B.sz = 1) (hl : r.off + xs.length ≤ B.cells.length)
    (he : (B.cells.drop r.off).take xs.length = xs.map c.en) (hm : xs.length ≤ maxL) : rd c H (.slc r xs.length) = some xs := by
  simp only [rd, hB, hv, hs, hl, hm, true_and, and_self, if_true, he, mapM_mk]

theorem rd_bound (h : rd c H s = some xs) : xs.length ≤ maxL := by
  rcases rd_inv h with ⟨_, rfl⟩ | ⟨r, B, _, _, _, _, _, _, hm⟩
  · simp
  · exact hm
theorem rd_len (h : rd c H s = some xs) : lenS s = some xs.length := by
  rcases rd_inv h with ⟨rfl, rfl⟩ | ⟨r, B, rfl, _⟩ <;> rfl
theorem rd_within (h : rd c H s = some xs) : s.within H.length = true := by
  rcases rd_inv h with ⟨rfl, rfl⟩ | ⟨r, B, rfl, hB, _⟩
  · rfl
  · simp only [AV.within, decide_eq_true_eq]; exact (List.getElem?_eq_some_iff.1 hB).1
theorem rd_rdS (h : rd c H s = some xs) : rdS H s = some (xs.map c.en) := by
  rcases rd_inv h with ⟨rfl, rfl⟩ | ⟨r, B, rfl, hB, hv, hs, hl, he, _⟩
  · rfl
  · simp [rdS, hB, hv, hs, hl, he]
theorem rd_lenA (h : rd c H s = some xs) {t e : TypeId} (ht : P.underlying t = some (.slice e)) : builtinA P H .len [t] [s] = some (.int .i64 xs.length, H) := by
  rcases rd_inv h with ⟨rfl, rfl⟩ | ⟨r, B, rfl, hB, hv, _⟩
  · simp [builtinA, ht]
  · have : live H r = true := live_iff.2 ⟨B, hB, hv⟩
    simp [builtinA, ht, this]
theorem rd_idx (h : rd c H s = some xs) {t e : TypeId} (ht : P.underlying t = some (.slice e)) (hs : szA P e = some 1) (k : IntKind) (i : Nat) (hi : i < xs.length) :
    indexAddrA P H t s (.int k i) = some (s.plc i) := by
  rcases rd_inv h with ⟨rfl, rfl⟩ | ⟨r, B, rfl, hB, hv, hs1, _⟩
  · simp at hi
  · simp [indexAddrA, elemA, ht, hs, hB, hv, hs1, hi, AV.plc]
theorem rd_ldC (h : rd c H s = some xs) (i : Nat) (hi : i < xs.length) : ∃ r, s.plc i = .ptr r ∧ ldC H r = some (c.en xs[i]) := by
  rcases rd_inv h with ⟨rfl, rfl⟩ | ⟨r, B, rfl, hB, hv, hs1, hl, he, _⟩
  · simp at hi
  · refine ⟨_, rfl, ?_⟩
    simp only [ldC, hB, hv, if_true]
    have : (List.take xs.length (B.cells.drop r.off))[i]? = (xs.map c.en)[i]? := by rw [he]
    rw [List.getElem?_take, if_pos hi, List.getElem?_drop] at this
    rw [this, List.getElem?_map, List.getElem?_eq_getElem hi]; rfl
theorem rd_ld (h : rd c H s = some xs) {t : TypeId} {d : TypeDesc} (ht : P.underlying t = some d) (hd : aggD d = false) (i : Nat) (hi : i < xs.length) : loadA P H t (s.plc i) = some (c.en xs[i]) := by
  obtain ⟨r, h1, h2⟩ := rd_ldC h i hi
  rw [h1]
  unfold loadA
  rw [ht]
  cases d <;> first | exact h2 | simp [aggD] at hd
theorem rd_app (h : rd c H s = some xs) (L : Heap) : rd c (H ++ L) s = some xs := by
  rcases rd_inv h with ⟨rfl, rfl⟩ | ⟨r, B, rfl, hB, hv, hs1, hl, he, hm⟩
  · rfl
  · exact rd_mk (B := B) (by rw [List.getElem?_append_left (List.getElem?_eq_some_iff.1 hB).1]; exact hB) hv hs1 hl he hm
theorem rd_sub (h : rd c H s = some xs) (lo hi : Nat) (h1 : lo ≤ hi) (h2 : hi ≤ xs.length) : rd c H (s.sub lo hi) = some ((xs.take hi).drop lo) := by
  rcases rd_inv h with ⟨rfl, rfl⟩ | ⟨r, B, rfl, hB, hv, hs1, hl, he, hm⟩
  · simp [AV.sub, rd]
  · have hlen : ((xs.take hi).drop lo).length = hi - lo := by simp; omega
    have := rd_mk (c := c) (H := H) (r := ⟨r.id, r.off + lo, r.ver⟩) (B := B) (xs := (xs.take hi).drop lo) hB hv hs1 (by simp; omega) (by
      rw [hlen]
      have e : (xs.take hi).drop lo = ((xs.drop lo).take (hi - lo)) := by rw [List.drop_take]
      rw [e, List.map_take, List.map_drop, ← he, List.drop_take, List.take_take, List.drop_drop]
      congr 1; omega) (by omega)
    rw [hlen] at this
    simpa [AV.sub] using this
theorem rd_slice (h : rd c H s = some xs) {t e : TypeId} (ht : P.underlying t = some (.slice e)) (hs : szA P e = some 1) (k k' : IntKind) (lo hi : Nat) (h1 : lo ≤ hi) (h2 : hi ≤ xs.length) :
    sliceA P H t s (some (.int k lo)) (some (.int k' hi)) = some (s.sub lo hi) := by
  rcases rd_inv h with ⟨rfl, rfl⟩ | ⟨r, B, rfl, hB, hv, hs1, hl, he, hm⟩
  · have : lo = 0 := by simp at h2; omega
    have : hi = 0 := by simpa using h2
    subst hi; subst lo
    simp [sliceA, ht, intOr, hs, AV.sub]
  · simp [sliceA, ht, intOr, hB, hv, hs, hs1, h1, h2, AV.sub]
end

/-! the heap's normal form: what was there, and the new blocks -/
section
variable (H L : Heap) (B : Blk)
@[simp] theorem get_new0 : (H ++ L)[H.length]? = L[0]? := by rw [List.getElem?_append_right (Nat.le_refl _), Nat.sub_self]
@[simp] theorem get_newj (j : Nat) : (H ++ L)[H.length + j]? = L[j]? := by rw [List.getElem?_append_right (by omega)]; congr 1; omega
@[simp] theorem set_new0 : (H ++ L).set H.length B = H ++ L.set 0 B := by rw [List.set_append_right _ _ (Nat.le_refl _), Nat.sub_self]
@[simp] theorem set_newj (j : Nat) : (H ++ L).set (H.length + j) B = H ++ L.set j B := by rw [List.set_append_right _ _ (by omega)]; congr 2; omega
end

/-- A row of the call's own. -/
def blk {α : Type} (c : Cd α) (xs : List α) : Blk := ⟨xs.map c.en, true, 1, true⟩
@[simp] theorem blk_cells {α : Type} (c : Cd α) (xs : List α) : (blk c xs).cells = xs.map c.en := rfl
@[simp] theorem blk_own {α : Type} (c : Cd α) (xs : List α) : (blk c xs).own = true := rfl
@[simp] theorem blk_sz {α : Type} (c : Cd α) (xs : List α) : (blk c xs).sz = 1 := rfl
@[simp] theorem blk_flat {α : Type} (c : Cd α) (xs : List α) : (blk c xs).flat = true := rfl
theorem all_flat {α : Type} (c : Cd α) (xs : List α) : (xs.map c.en).all AV.isFlat = true := by
  simp [List.all_eq_true]; intro x _; exact c.flat x
theorem cellOk_flat {H : Heap} {x : AV} (h : x.isFlat = true) : cellOk H x = true := by
  cases x <;> first | rfl | simp [AV.isFlat] at h
theorem all_cellOk {α : Type} (c : Cd α) (H : Heap) (xs : List α) : (xs.map c.en).all (cellOk H) = true := by
  simp [List.all_eq_true]; intro x _; exact cellOk_flat (c.flat x)

/-- A whole slice over block a. -/
def sl {α : Type} (a : Nat) (xs : List α) : AV := .slc ⟨a, 0, xs.length⟩ xs.length

theorem rd_own {α : Type} {c : Cd α} {H : Heap} {a : Nat} {xs : List α} (h : H[a]? = some (blk c xs)) (hm : xs.length ≤ maxL) : rd c H (sl a xs) = some xs :=
  rd_mk (c := c) (r := ⟨a, 0, xs.length⟩) h (by simp) rfl (by simp) (by simp only [blk_cells, List.drop_zero]; rw [List.take_of_length_le (by simp)]) hm

end Go.Proofs.Ytbhmllcnfdndhaa.AM
