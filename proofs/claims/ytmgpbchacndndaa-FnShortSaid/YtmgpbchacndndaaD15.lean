import Derived.Test.YtmgpbchacndndaaD14
set_option linter.unusedSimpArgs false
set_option linter.unusedVariables false
namespace Go.Proofs.Ytmgpbchacndndaa.AM
theorem DVs.okAt {F : Fr} {L : List DBlk} {cs : List DV} {c : DV} (h : DVs.Ok F L cs) (i : Nat) (hi : cs[i]? = some c) : c.Ok F L := DVs.ok_iff.1 h c (List.mem_of_getElem? hi)
theorem Ak_ {F : Fr} (hi : F.ids = []) : St F [] F.H0 := by
  have h0 : ∀ j c k, blkAt F [] j c k = none := fun j c k => by simp [blkAt]
  refine ⟨fun j c k B h => (by rw [h0] at h; cases h), fun j c k B j' c' k' B' h => (by rw [h0] at h; cases h), fun j c k B h => (by rw [h0] at h; cases h), fun j n v h => (by simp at h), Y0_ _, fun j b h => (by simp at h), fun i B hB hi' => ?_, F.ws⟩
  rcases hi' with h | h
  · rw [hi] at h; cases h
  · rw [List.getElem?_eq_none h] at hB; cases hB
theorem Ao8_ {P : Program} {f : FuncId} {G : DFn} (h : ∀ (F : Fr) (L : List DBlk) (H : Heap) (args : List DV) (r : DV) (L' : List DBlk), St F L H → DVs.Ok F L args → (G args L).run = some (r, L') → L' = L ∧ r.Ok F L ∧ FnOk P f (DVs.av F args) H (r.av F) H) : COk P f G true := by
  intro F L H args r L' hs ha hr
  obtain ⟨rfl, h2, h3⟩ := h F L H args r L' hs ha hr
  exact ⟨F, H, FrLe.refl F _, h3, hs, h2, Ext.refl _, fun _ _ _ => rfl⟩
theorem Apf_ {α : Type} {b : Bool} {t : Tree α} {a : α} (h : (Tree.grd b t).run = some a) : b = true ∧ t.run = some a := by
  simp only [Tree.run] at h
  split at h
  · exact ⟨by assumption, h⟩
  · cases h
theorem Nk_ {α : Type} {b : Bool} {t : Option α} {a : α} (h : (if b = true then t else none) = some a) : b = true ∧ t = some a := by
  split at h
  · exact ⟨by assumption, h⟩
  · cases h
theorem COk.weak {P : Program} {f : FuncId} {G : DFn} {b : Bool} (h : COk P f G true) : COk P f G b := by
  intro F L H args r L' hs ha hr
  obtain ⟨F', H', k0, k1, k2, k3, k4, k5⟩ := h F L H args r L' hs ha hr
  exact ⟨F', H', k0, k1, k2, k3, k4, fun j hj _ => k5 j hj (.inl rfl)⟩
theorem Aw_ {P : Program} {f : FuncId} {F : Fr} {L : List DBlk} {H : Heap} (hs : St F L H) (ρ : Nat → AV) (args A : List DV) {r r' : DV}
    (h : ∀ F' : Fr, F'.H0 = H → F'.ids = [] → F'.ρ = ρ → DVs.av F' A = DVs.av F args ∧ ∃ F'' H', Fwd 0 F' F'' [] [] ∧ FnOk P f (DVs.av F' A) F'.H0 (r.av F'') H' ∧ St F'' [] H' ∧ r.Ok F'' [])
    (h1 : r.shift L.length = some r') :
    ∃ F' H', FrLe F F' L ∧ FnOk P f (DVs.av F args) H (r'.av F') H' ∧ St F' L H' ∧ r'.Ok F' L ∧ Ext L L ∧ ∀ j, j < L.length → (true = true ∨ j ∉ reach L args) → L[j]? = L[j]? := by
  have := Yf_ hs ρ h h1 (L2 := []) rfl
  simpa using this
theorem Dc_ {P : Program} {f : FuncId} {F : Fr} {L : List DBlk} {H : Heap} (hs : St F L H) (ρ : Nat → AV) (args A : List DV) {r r' : DV} {L1 L2 : List DBlk}
    (h : ∀ F' : Fr, F'.H0 = H → F'.ids = [] → F'.ρ = ρ → DVs.av F' A = DVs.av F args ∧ ∃ F'' H', Fwd 0 F' F'' [] L1 ∧ FnOk P f (DVs.av F' A) F'.H0 (r.av F'') H' ∧ St F'' L1 H' ∧ r.Ok F'' L1)
    (h1 : r.shift L.length = some r') (h2 : Eg_ L.length L1 = some L2) :
    ∃ F' H', FrLe F F' L ∧ FnOk P f (DVs.av F args) H (r'.av F') H' ∧ St F' (L ++ L2) H' ∧ r'.Ok F' (L ++ L2) ∧ Ext L (L ++ L2) ∧ ∀ j, j < L.length → (true = true ∨ j ∉ reach L args) → (L ++ L2)[j]? = L[j]? := Yf_ hs ρ h h1 h2
end Go.Proofs.Ytmgpbchacndndaa.AM
