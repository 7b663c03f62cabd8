/- More ends of functions; splits where a condition is not known; structs in boxes. -/
import Derived.Test.YtbhmllcnfdndhaaC4
set_option linter.unusedSimpArgs false
set_option linter.unusedVariables false
namespace Go.Proofs.Ytbhmllcnfdndhaa.AM

section
variable {P : Program} {O : Oracle} {nb : Nat} {Q : QA} {e : Env} {H : Heap} {ops : Array Oper} {l : List Oper} {o : Oper}
/-- A guard that is not known. -/
theorem goR_want (b : Bool) (h1 : b = true → endR Q (goR P O ops l (stepW P O e H o (some true)))) (h2 : b = false → endR Q (goR P O ops l (stepW P O e H o (some false)))) :
    endR Q (goR P O ops l (stepW P O e H o (some b))) := by
  cases b
  · exact h2 rfl
  · exact h1 rfl
theorem dW_want {U : List (Nat × Nat)} {K : Env → Heap → Prop} {i : Nat} {past : List (Nat × Heap)} {pend : List (Nat × Env × Oper × AV)} (b : Bool)
    (h1 : b = true → dW P O ops U K i o l e H past pend (some true)) (h2 : b = false → dW P O ops U K i o l e H past pend (some false)) : dW P O ops U K i o l e H past pend (some b) := by
  cases b
  · exact h2 rfl
  · exact h1 rfl
end

section
variable {P : Program} {O : Oracle} {nb : Nat} {Q : QA} {e : Env} {H : Heap} {ops : Array Oper} {l : List Oper} {o : Oper}
theorem goR_dec (p : Prop) [Decidable p] (h1 : p → endR Q (goR P O ops l (stepW P O e H o (some true)))) (h2 : ¬p → endR Q (goR P O ops l (stepW P O e H o (some false)))) :
    endR Q (goR P O ops l (stepW P O e H o (some (decide p)))) := goR_want _ (fun h => h1 (of_decide_eq_true h)) (fun h => h2 (of_decide_eq_false h))
theorem goR_ndec (p : Prop) [Decidable p] (h1 : ¬p → endR Q (goR P O ops l (stepW P O e H o (some true)))) (h2 : p → endR Q (goR P O ops l (stepW P O e H o (some false)))) :
    endR Q (goR P O ops l (stepW P O e H o (some (!decide p)))) := goR_want _ (fun h => h1 (of_decide_eq_false (by simpa using h))) (fun h => h2 (of_decide_eq_true (by simpa using h)))
theorem goR_not (b : Bool) (h1 : b = false → endR Q (goR P O ops l (stepW P O e H o (some true)))) (h2 : b = true → endR Q (goR P O ops l (stepW P O e H o (some false)))) :
    endR Q (goR P O ops l (stepW P O e H o (some (!b)))) := goR_want _ (fun h => h1 (by simpa using h)) (fun h => h2 (by simpa using h))
theorem condQ_dec {a b : Code} (p : Prop) [Decidable p] (h1 : p → awp P O nb a Q e H) (h2 : ¬p → awp P O nb b Q e H) : condQ P O nb a b Q e H (.bool (decide p)) := condQ_bool _ (fun h => h1 (of_decide_eq_true h)) (fun h => h2 (of_decide_eq_false h))
theorem condQ_ndec {a b : Code} (p : Prop) [Decidable p] (h1 : ¬p → awp P O nb a Q e H) (h2 : p → awp P O nb b Q e H) : condQ P O nb a b Q e H (.bool (!decide p)) := condQ_bool _ (fun h => h1 (of_decide_eq_false (by simpa using h))) (fun h => h2 (of_decide_eq_true (by simpa using h)))
theorem condQ_not {a b : Code} (t : Bool) (h1 : t = false → awp P O nb a Q e H) (h2 : t = true → awp P O nb b Q e H) : condQ P O nb a b Q e H (.bool (!t)) := condQ_bool _ (fun h => h1 (by simpa using h)) (fun h => h2 (by simpa using h))
end

/-- All that stands in a block lies in the heap. -/
def Blk.ins (n : Nat) (B : Blk) : Bool := B.cells.all (·.within n)
@[simp] theorem ins_blk {α : Type} (c : Cd α) (n : Nat) (xs : List α) : (blk c xs).ins n = true := by
  simp [Blk.ins, List.all_eq_true]
  intro x _
  exact flat_within (c.flat x)
@[simp] theorem ins_mk (n : Nat) (cs : List AV) (o : Bool) (s : Nat) (f : Bool) : Blk.ins n ⟨cs, o, s, f⟩ = cs.all (·.within n) := rfl
theorem WS.app {H L : Heap} (h : WS H) (hL : L.all (Blk.ins (H.length + L.length)) = true) : WS (H ++ L) := by
  intro i B hB c hc
  rw [List.length_append]
  rw [List.getElem?_append] at hB
  split at hB
  · exact within_mono (Nat.le_add_right _ _) c (h i B hB c hc)
  · have := List.all_eq_true.1 hL B (List.mem_of_getElem? hB)
    exact List.all_eq_true.1 this c hc

@[simp] theorem keepσ_new (n : Nat) (ks : List Nat) (j : Nat) : keepσ n ks (n + j) = n + (ks[j]?).getD (n + j) := by
  unfold keepσ
  rw [if_neg (by omega), show n + j - n = j by omega]
@[simp] theorem keepσ_new0 (n : Nat) (ks : List Nat) : keepσ n ks n = n + (ks[0]?).getD n := by
  have := keepσ_new n ks 0
  simpa using this

theorem mapM_get {α β : Type} {f : α → Option β} : ∀ {l : List α} {L : List β}, l.mapM f = some L → L.length = l.length ∧ ∀ (j : Nat) (k : α) (B : β), L[j]? = some B → l[j]? = some k → f k = some B
  | [], L, h => by simp at h; subst h; exact ⟨rfl, by simp⟩
  | x :: l, L, h => by
    rw [List.mapM_cons] at h
    cases h1 : f x with
    | none => rw [h1] at h; cases h
    | some y =>
      cases h2 : l.mapM f with
      | none => rw [h1, h2] at h; cases h
      | some ys =>
        rw [h1, h2] at h
        simp at h
        subst h
        obtain ⟨k1, k2⟩ := mapM_get h2
        refine ⟨by simp [k1], fun j k B hj hk => ?_⟩
        cases j with
        | zero => simp at hj hk; subst hj; subst hk; exact h1
        | succ j => exact k2 j k B (by simpa using hj) (by simpa using hk)

/-- Some of the new blocks are kept: flat ones. -/
theorem ret_keep {P : Program} {rs : List ResultVar} {r : AV} {H L L' : Heap} {e : Env} (ks : List Nat) (hws : WS H) (hk : ks.mapM (fun k => L'[k]?) = some L) (hnd : ks.Nodup) (hf : ∀ B ∈ L, B.flat = true ∧ B.cells.all AV.isFlat = true)
    {v : AV} (h : resA P rs e (H ++ L') = some v) (hr : Wk1 (H ++ L).length (keepσ H.length ks) r v) : retQ P rs H.length r (H ++ L) .ret e (H ++ L') := by
  obtain ⟨hl, hg⟩ := mapM_get hk
  refine ⟨v, h, _, WkH.keep ks (Nat.le_refl _) hws hl hnd fun j k B hj hkj => ?_, hr⟩
  have hB : L'[k]? = some B := hg j k B hj hkj
  obtain ⟨f1, f2⟩ := hf B (List.mem_of_getElem? hj)
  exact ⟨B, hB, rfl, rfl, rfl, .inl ⟨f1, rfl, f2⟩⟩

theorem rd_cellOk {α : Type} {c : Cd α} {H : Heap} {s : AV} {xs : List α} (h : rd c H s = some xs) : cellOk H s = true := by
  rcases rd_inv h with ⟨rfl, _⟩ | ⟨r, B, rfl, hB, hv, _⟩
  · rfl
  · exact live_iff.2 ⟨B, hB, hv⟩
@[simp] theorem flat_blk {α : Type} (c : Cd α) (xs : List α) : (blk c xs).cells.all AV.isFlat = true := all_flat c xs

/-- The i-th of a list; beyond it, the default. -/
def nth {α : Type} [Inhabited α] (xs : List α) (i : Nat) : α := xs.getD i default
theorem nth_of {α : Type} [Inhabited α] (xs : List α) (i : Nat) (h : i < xs.length) : nth xs i = xs[i] := getD_of xs i default h
theorem rd_ldD {α : Type} [Inhabited α] {c : Cd α} {P : Program} {H : Heap} {s : AV} {xs : List α} (h : rd c H s = some xs) {t : TypeId} {d : TypeDesc} (ht : P.underlying t = some d) (hd : aggD d = false) (i : Nat) (hi : i < xs.length) : loadA P H t (s.plc i) = some (c.en (nth xs i)) := by
  rw [rd_ld h ht hd i hi, nth_of xs i hi]
theorem wrap_sub1 (n : Nat) (h1 : 1 ≤ n) (h2 : n ≤ maxL) : IntKind.i64.wrap ((n : Int) - 1) = ((n - 1 : Nat) : Int) := by
  unfold maxL at h2
  rw [wrapI64 _ (by omega) (by omega)]; omega
@[simp] theorem cellOk_slc (H : Heap) (r : Ref) (n : Nat) : cellOk H (.slc r n) = live H r := rfl
@[simp] theorem cellOk_ptr (H : Heap) (r : Ref) : cellOk H (.ptr r) = live H r := rfl
@[simp] theorem cellOk_int (H : Heap) (k : IntKind) (n : Int) : cellOk H (.int k n) = true := rfl
@[simp] theorem cellOk_flt (H : Heap) (k : FloatKind) (n : Nat) : cellOk H (.flt k n) = true := rfl
@[simp] theorem cellOk_bool (H : Heap) (b : Bool) : cellOk H (.bool b) = true := rfl
@[simp] theorem cellOk_str (H : Heap) (b : ByteArray) : cellOk H (.str b) = true := rfl
@[simp] theorem cellOk_nilslc (H : Heap) : cellOk H .nilslc = true := rfl
@[simp] theorem cellOk_nilptr (H : Heap) : cellOk H .nilptr = true := rfl
section
variable {H : Heap} {i o v n : Nat} {cs : List AV}
theorem ldN_inv (h : ldN H ⟨i, o, v⟩ n = some cs) : ∃ B, H[i]? = some B ∧ v = B.cells.length ∧ o + n ≤ B.cells.length ∧ cs = (B.cells.drop o).take n := by
  unfold ldN at h
  split at h
  · rename_i B hB
    split at h
    · rename_i hk
      cases h; exact ⟨B, hB, hk.1, hk.2, rfl⟩
    · cases h
  · cases h
theorem ldN_live (h : ldN H ⟨i, o, v⟩ n = some cs) (o' : Nat) : live H ⟨i, o', v⟩ = true := by
  obtain ⟨B, h1, h2, _⟩ := ldN_inv h
  exact live_iff.2 ⟨B, h1, h2⟩
theorem ldN_liveL (h : ldN H ⟨i, o, v⟩ n = some cs) (o' : Nat) (L : Heap) : live (H ++ L) ⟨i, o', v⟩ = true := by
  obtain ⟨B, h1, h2, _⟩ := ldN_inv h
  exact live_iff.2 ⟨B, by rw [List.getElem?_append_left (List.getElem?_eq_some_iff.1 h1).1]; exact h1, h2⟩
theorem ldN_app (h : ldN H ⟨i, o, v⟩ n = some cs) (L : Heap) : ldN (H ++ L) ⟨i, o, v⟩ n = some cs := by
  obtain ⟨B, h1, h2, h3, h4⟩ := ldN_inv h
  have : (H ++ L)[i]? = some B := by rw [List.getElem?_append_left (List.getElem?_eq_some_iff.1 h1).1]; exact h1
  simp [ldN, this, h2, h3, h4]
theorem ldN_ldC (h : ldN H ⟨i, o, v⟩ n = some cs) (j : Nat) (hj : j < n) : ldC H ⟨i, o + j, v⟩ = cs[j]? := by
  obtain ⟨B, h1, h2, h3, h4⟩ := ldN_inv h
  subst h4
  simp [ldC, h1, h2, List.getElem?_take, hj]
theorem ldN_within (h : ldN H ⟨i, o, v⟩ n = some cs) : i < H.length := by
  obtain ⟨B, h1, _⟩ := ldN_inv h
  exact (List.getElem?_eq_some_iff.1 h1).1
end
@[simp] theorem wk1_agg {n : Nat} {σ : Nat → Nat} {cs : List AV} {y : AV} : Wk1 n σ (.agg cs) y ↔ y = .agg (AVs.ren σ cs) ∧ AVs.within n cs = true := by simp [Wk1, AV.ren, AV.within]
@[simp] theorem wk1_tup {n : Nat} {σ : Nat → Nat} {cs : List AV} {y : AV} : Wk1 n σ (.tup cs) y ↔ y = .tup (AVs.ren σ cs) ∧ AVs.within n cs = true := by simp [Wk1, AV.ren, AV.within]
/-- The length that a slice tells. -/
def slen (H : Heap) : AV → Option Nat
  | .nilslc => some 0
  | .slc r n => if live H r = true ∧ n < 9223372036854775808 then some n else none
  | _ => none
section
variable {P : Program} {H : Heap} {s : AV} {n : Nat}
theorem slen_inv (h : slen H s = some n) : (s = .nilslc ∧ n = 0) ∨ ∃ r, s = .slc r n ∧ live H r = true ∧ n < 9223372036854775808 := by
  unfold slen at h
  split at h
  · cases h; exact .inl ⟨rfl, rfl⟩
  · split at h
    · rename_i hk; cases h; exact .inr ⟨_, rfl, hk⟩
    · cases h
  · cases h
theorem slen_lt (h : slen H s = some n) : n < 9223372036854775808 := by
  rcases slen_inv h with ⟨_, rfl⟩ | ⟨r, _, _, h⟩
  · decide
  · exact h
theorem slen_lenA (h : slen H s = some n) {t e : TypeId} (ht : P.underlying t = some (.slice e)) : builtinA P H .len [t] [s] = some (.int .i64 n, H) := by
  rcases slen_inv h with ⟨rfl, rfl⟩ | ⟨r, rfl, hl, _⟩
  · simp [builtinA, ht]
  · simp [builtinA, ht, hl]
theorem slen_app (h : slen H s = some n) (L : Heap) : slen (H ++ L) s = some n := by
  rcases slen_inv h with ⟨rfl, rfl⟩ | ⟨r, rfl, hl, hn⟩
  · rfl
  · obtain ⟨B, k1, k2⟩ := live_iff.1 hl
    have : live (H ++ L) r = true := live_iff.2 ⟨B, by rw [List.getElem?_append_left (List.getElem?_eq_some_iff.1 k1).1]; exact k1, k2⟩
    simp [slen, this, hn]
theorem slen_cellOk (h : slen H s = some n) : cellOk H s = true := by
  rcases slen_inv h with ⟨rfl, rfl⟩ | ⟨r, rfl, hl, _⟩
  · rfl
  · exact hl
theorem slen_within (h : slen H s = some n) : s.within H.length = true := by
  rcases slen_inv h with ⟨rfl, rfl⟩ | ⟨r, rfl, hl, _⟩
  · rfl
  · obtain ⟨B, k1, _⟩ := live_iff.1 hl
    simp only [AV.within, decide_eq_true_eq]; exact (List.getElem?_eq_some_iff.1 k1).1
theorem rd_slen {α : Type} {c : Cd α} {xs : List α} (h : rd c H s = some xs) : slen H s = some xs.length := by
  have hb := rd_bound h
  unfold maxL at hb
  rcases rd_inv h with ⟨rfl, rfl⟩ | ⟨r, B, rfl, hB, hv, _⟩
  · rfl
  · simp [slen, live_iff.2 ⟨B, hB, hv⟩]; omega
end
/-- A slice that a law is handed: it tells its length, and if that is not beyond all measure it reads as a list. -/
def SlA {α : Type} (c : Cd α) (H : Heap) (s : AV) : Prop := ∃ n, slen H s = some n ∧ (n ≤ maxL → ∃ xs, rd c H s = some xs ∧ xs.length = n)
theorem SlA.app {α : Type} {c : Cd α} {H : Heap} {s : AV} (h : SlA c H s) (L : Heap) : SlA c (H ++ L) s := by
  obtain ⟨n, h1, h2⟩ := h
  exact ⟨n, slen_app h1 L, fun hn => by obtain ⟨xs, h3, h4⟩ := h2 hn; exact ⟨xs, rd_app h3 L, h4⟩⟩
end Go.Proofs.Ytbhmllcnfdndhaa.AM
