/- Contracts: P2. -/
import Derived.Test.YtbhmllcnfdndhaaP1
namespace Go.Proofs.Ytbhmllcnfdndhaa.AM
open Go.Proofs
set_option maxRecDepth 100000
set_option maxHeartbeats 4000000
set_option linter.unusedSimpArgs false
set_option linter.unusedVariables false

/-- The first that is not finite. -/
def firstBad (xs : List Nat) : Int := if xs.all sfin = true then -1 else (xs.findIdx (fun x => !sfin x) : Nat)
theorem firstBad_of {xs : List Nat} {k : Nat} (hk : k < xs.length) (hR : ∀ (j : Nat) (hj : j < xs.length), j < k → sfin xs[j] = true) (hb : sfin xs[k] = false) : firstBad xs = k := by
  unfold firstBad
  have h1 : xs.all sfin = false := by
    rw [List.all_eq_false]; exact ⟨xs[k], List.getElem_mem hk, by simp [hb]⟩
  rw [if_neg (by simp [h1])]
  have := (List.findIdx_eq (p := fun x => !sfin x) hk).2 ⟨by simp [hb], fun j hj => by simp [hR j (by omega) hj]⟩
  rw [this]
theorem allFin_of {xs : List Nat} (hR : ∀ (j : Nat) (hj : j < xs.length), j < xs.length → sfin xs[j] = true) : xs.all sfin = true := by
  rw [List.all_eq_true]; intro x hx
  obtain ⟨i, hi, rfl⟩ := List.getElem_of_mem hx
  exact hR i hi hi
theorem allFin_no {xs : List Nat} {k : Nat} (hk : k < xs.length) (hb : sfin xs[k] = false) : xs.all sfin = false := by
  rw [List.all_eq_false]; exact ⟨xs[k], List.getElem_mem hk, by simp [hb]⟩
theorem step_R (q : Nat → Prop) {xs : List Nat} {k : Nat} (hk : k < xs.length) (hR : ∀ (j : Nat) (hj : j < xs.length), j < k → q xs[j]) (h : q xs[k]) : ∀ (j : Nat) (hj : j < xs.length), j < k + 1 → q xs[j] := by
  intro j hj hjk
  rcases Nat.lt_succ_iff_lt_or_eq.1 hjk with h1 | h1
  · exact hR j hj h1
  · subst h1; exact h
theorem firstBad_nonneg (xs : List Nat) : decide (0 ≤ firstBad xs) = !xs.all sfin := by
  unfold firstBad
  cases h : xs.all sfin <;> simp

/-- slices.IndexFunc[[]float32,float32] -/
theorem F_slices_IndexFunc_float32_float32_fn (s : AV) ( H : Heap) (xs : List Nat) (hxs : rd cF H s = some xs) : FnOk Try.prog 75 [s, .fn 66 []] H (.int .i64 (firstBad xs)) (H) := by
  have hO : SoundO Try.prog (tab [(66, F_impl_areFinite_1)]) := (tab_cons F_impl_areFinite_1_ok (tab_nil _))
  refine FnOk_of hO Try.func75 Try.call75 rfl fun hws hin => awp_ok hO _ _ _ _ ?_
  have hbxs := rd_bound hxs
  have hwxs := rd_within hxs
  have hLxs := fun L => rd_app hxs L
  have hnxs := rd_lenA hxs Try.underlying22
  have hnLxs := fun L => rd_lenA (hLxs L) Try.underlying22
  have hixs := fun i (hi : i < xs.length) => rd_idx hxs Try.underlying22 sz23 .i64 i hi
  have hiLxs := fun L i (hi : i < xs.length) => rd_idx (hLxs L) Try.underlying22 sz23 .i64 i hi
  have hgxs := fun i (hi : i < xs.length) => rd_ld hxs Try.underlying23 rfl i hi
  have hgLxs := fun L i (hi : i < xs.length) => rd_ld (hLxs L) Try.underlying23 rfl i hi
  simp only [cF_en, cI_en, cB_en, cD_en, cU8_en] at hgxs hgLxs
  have hwLxs := fun m => within_mono (Nat.le_add_right _ m) s hwxs
  simp [Try.ntmps75, F_impl_areFinite_1, hwLxs, hxs, hLxs, hnxs, hnLxs, hixs, hiLxs, hgxs, hgLxs, hwxs]
  refine TW_count hO xs.length (fun k => [s, .fn 66 [], .top, .top, .top, .top, .top, .int .i64 xs.length, .int .i64 k, .top, .top, .top, .top, .top, .top, .top, .top, .top, .top]) (fun k => H) (fun k => ∀ (j : Nat) (hj : j < xs.length), j < k → sfin xs[j] = true) (by simp) ?_ ?_
  · refine Wk.here (by simp) hws ?_
    simp [Try.ntmps75, F_impl_areFinite_1, hwLxs, hxs, hLxs, hnxs, hnLxs, hixs, hiLxs, hgxs, hgLxs, hwxs]
  · intro k hk hR
    by_cases hlt : k < xs.length
    · have hw1 := wrap1 k (by unfold maxL at hbxs; omega)
      cases hb : sfin xs[k] with
      | true =>
        simp [Try.ntmps75, F_impl_areFinite_1, hwLxs, hxs, hLxs, hnxs, hnLxs, hixs, hiLxs, hgxs, hgLxs, hwxs, hlt, hw1, hb]
        refine ⟨?_, Wk.here (by simp) hws ?_⟩
        · exact step_R (fun x => sfin x = true) hlt hR hb
        · simp [Try.ntmps75, F_impl_areFinite_1, hwLxs, hxs, hLxs, hnxs, hnLxs, hixs, hiLxs, hgxs, hgLxs, hwxs]
      | false =>
        simp [Try.ntmps75, F_impl_areFinite_1, hwLxs, hxs, hLxs, hnxs, hnLxs, hixs, hiLxs, hgxs, hgLxs, hwxs, hlt, hw1, hb]
        exact ret_here hws (by simp [firstBad_of hlt hR hb]) (by simp)
    · have : k = xs.length := by omega
      subst this
      have hal := allFin_of hR
      simp [Try.ntmps75, F_impl_areFinite_1, hwLxs, hxs, hLxs, hnxs, hnLxs, hixs, hiLxs, hgxs, hgLxs, hwxs, hlt]
      exact ret_here hws (by simp only [firstBad, hal]; simp) (by simp)
def F_slices_IndexFunc_float32_float32 : List AV → Heap → Option (AV × Heap)
  | [s, .fn 66 []], H => (rd cF H s).bind fun xs => some (.int .i64 (firstBad xs), H)
  | _, _ => none
theorem F_slices_IndexFunc_float32_float32_ok : FunOk Try.prog 75 F_slices_IndexFunc_float32_float32 := by
  intro args H r H' h
  unfold F_slices_IndexFunc_float32_float32 at h
  split at h
  · obtain ⟨xs, hxs, h⟩ := Option.bind_eq_some_iff.1 h
    simp only [Option.some.injEq, Prod.mk.injEq] at h
    obtain ⟨rfl, rfl⟩ := h
    exact F_slices_IndexFunc_float32_float32_fn _ _ _ hxs
  · cases h
/-- slices.ContainsFunc[[]float32,float32] -/
theorem F_slices_ContainsFunc_float32_float32_fn (s : AV) ( H : Heap) (xs : List Nat) (hxs : rd cF H s = some xs) : FnOk Try.prog 65 [s, .fn 66 []] H (.bool (!xs.all sfin)) (H) := by
  have hO : SoundO Try.prog (tab [(75, F_slices_IndexFunc_float32_float32)]) := (tab_cons F_slices_IndexFunc_float32_float32_ok (tab_nil _))
  refine FnOk_of hO Try.func65 Try.call65 rfl fun hws hin => awp_ok hO _ _ _ _ ?_
  have hbxs := rd_bound hxs
  have hwxs := rd_within hxs
  have hLxs := fun L => rd_app hxs L
  have hnxs := rd_lenA hxs Try.underlying22
  have hnLxs := fun L => rd_lenA (hLxs L) Try.underlying22
  have hixs := fun i (hi : i < xs.length) => rd_idx hxs Try.underlying22 sz23 .i64 i hi
  have hiLxs := fun L i (hi : i < xs.length) => rd_idx (hLxs L) Try.underlying22 sz23 .i64 i hi
  have hgxs := fun i (hi : i < xs.length) => rd_ld hxs Try.underlying23 rfl i hi
  have hgLxs := fun L i (hi : i < xs.length) => rd_ld (hLxs L) Try.underlying23 rfl i hi
  simp only [cF_en, cI_en, cB_en, cD_en, cU8_en] at hgxs hgLxs
  have hwLxs := fun m => within_mono (Nat.le_add_right _ m) s hwxs
  simp [-List.all_eq_true, Try.ntmps65, F_slices_IndexFunc_float32_float32, hwLxs, hxs, hLxs, hnxs, hnLxs, hixs, hiLxs, hgxs, hgLxs, hwxs]
  exact ret_here hws (by simp [firstBad_nonneg]) (by simp)
def F_slices_ContainsFunc_float32_float32 : List AV → Heap → Option (AV × Heap)
  | [s, .fn 66 []], H => (rd cF H s).bind fun xs => some (.bool (!xs.all sfin), H)
  | _, _ => none
theorem F_slices_ContainsFunc_float32_float32_ok : FunOk Try.prog 65 F_slices_ContainsFunc_float32_float32 := by
  intro args H r H' h
  unfold F_slices_ContainsFunc_float32_float32 at h
  split at h
  · obtain ⟨xs, hxs, h⟩ := Option.bind_eq_some_iff.1 h
    simp only [Option.some.injEq, Prod.mk.injEq] at h
    obtain ⟨rfl, rfl⟩ := h
    exact F_slices_ContainsFunc_float32_float32_fn _ _ _ hxs
  · cases h
/-- impl.areFinite -/
theorem F_impl_areFinite_fn (s : AV) ( H : Heap) (xs : List Nat) (hxs : rd cF H s = some xs) : FnOk Try.prog 44 [s] H (.bool (xs.all sfin)) (H) := by
  have hO : SoundO Try.prog (tab [(65, F_slices_ContainsFunc_float32_float32), (66, F_impl_areFinite_1)]) := (tab_cons F_slices_ContainsFunc_float32_float32_ok (tab_cons F_impl_areFinite_1_ok (tab_nil _)))
  refine FnOk_of hO Try.func44 Try.call44 rfl fun hws hin => awp_ok hO _ _ _ _ ?_
  have hbxs := rd_bound hxs
  have hwxs := rd_within hxs
  have hLxs := fun L => rd_app hxs L
  have hnxs := rd_lenA hxs Try.underlying22
  have hnLxs := fun L => rd_lenA (hLxs L) Try.underlying22
  have hixs := fun i (hi : i < xs.length) => rd_idx hxs Try.underlying22 sz23 .i64 i hi
  have hiLxs := fun L i (hi : i < xs.length) => rd_idx (hLxs L) Try.underlying22 sz23 .i64 i hi
  have hgxs := fun i (hi : i < xs.length) => rd_ld hxs Try.underlying23 rfl i hi
  have hgLxs := fun L i (hi : i < xs.length) => rd_ld (hLxs L) Try.underlying23 rfl i hi
  simp only [cF_en, cI_en, cB_en, cD_en, cU8_en] at hgxs hgLxs
  have hwLxs := fun m => within_mono (Nat.le_add_right _ m) s hwxs
  simp [Try.ntmps44, F_slices_ContainsFunc_float32_float32, F_impl_areFinite_1, hwLxs, hxs, hLxs, hnxs, hnLxs, hixs, hiLxs, hgxs, hgLxs, hwxs]
  exact ret_here hws (by simp) (by simp)
def F_impl_areFinite : List AV → Heap → Option (AV × Heap)
  | [s], H => (rd cF H s).bind fun xs => some (.bool (xs.all sfin), H)
  | _, _ => none
theorem F_impl_areFinite_ok : FunOk Try.prog 44 F_impl_areFinite := by
  intro args H r H' h
  unfold F_impl_areFinite at h
  split at h
  · obtain ⟨xs, hxs, h⟩ := Option.bind_eq_some_iff.1 h
    simp only [Option.some.injEq, Prod.mk.injEq] at h
    obtain ⟨rfl, rfl⟩ := h
    exact F_impl_areFinite_fn _ _ _ hxs
  · cases h
/-- impl.length[float32] -/
theorem F_impl_length_float32_fn (s : AV) ( H : Heap) (xs : List Nat) (hxs : rd cF H s = some xs) : FnOk Try.prog 57 [s] H (.int .i64 xs.length) (H) := by
  have hO : SoundO Try.prog (tab []) := (tab_nil _)
  refine FnOk_of hO Try.func57 Try.call57 rfl fun hws hin => awp_ok hO _ _ _ _ ?_
  have hbxs := rd_bound hxs
  have hwxs := rd_within hxs
  have hLxs := fun L => rd_app hxs L
  have hnxs := rd_lenA hxs Try.underlying22
  have hnLxs := fun L => rd_lenA (hLxs L) Try.underlying22
  have hixs := fun i (hi : i < xs.length) => rd_idx hxs Try.underlying22 sz23 .i64 i hi
  have hiLxs := fun L i (hi : i < xs.length) => rd_idx (hLxs L) Try.underlying22 sz23 .i64 i hi
  have hgxs := fun i (hi : i < xs.length) => rd_ldD hxs Try.underlying23 rfl i hi
  have hgLxs := fun L i (hi : i < xs.length) => rd_ldD (hLxs L) Try.underlying23 rfl i hi
  have hzxs : 0 < xs.length → indexAddrA Try.prog H 22 s (.int .i64 0) = some (AV.plc s 0) := fun h => hixs 0 h
  have hzLxs : ∀ L, 0 < xs.length → indexAddrA Try.prog (H ++ L) 22 s (.int .i64 0) = some (AV.plc s 0) := fun L h => hiLxs L 0 h
  have hkxs := rd_cellOk hxs
  have hkLxs := fun L => rd_cellOk (hLxs L)
  simp only [cF_en, cI_en, cB_en, cD_en, cU8_en] at hgxs hgLxs
  have hwLxs := fun m => within_mono (Nat.le_add_right _ m) s hwxs
  simp [-List.all_eq_true, -List.all_eq_false, Try.ntmps57, hzxs, hzLxs, hkxs, hkLxs, hwLxs, hxs, hLxs, hnxs, hnLxs, hixs, hiLxs, hgxs, hgLxs, hwxs, newA, ldN, stN, putAt, Nat.add_assoc]
  repeat' first
    | (refine goR_dec _ (fun hq => ?_) (fun hq => ?_) <;> (have hp := hq) <;> (try simp [-List.all_eq_true, -List.all_eq_false] at hp) <;> simp [-List.all_eq_true, -List.all_eq_false, Try.ntmps57, hzxs, hzLxs, hkxs, hkLxs, hwLxs, hxs, hLxs, hnxs, hnLxs, hixs, hiLxs, hgxs, hgLxs, hwxs, newA, ldN, stN, putAt, Nat.add_assoc, hq, *])
    | (refine goR_ndec _ (fun hq => ?_) (fun hq => ?_) <;> (have hp := hq) <;> (try simp [-List.all_eq_true, -List.all_eq_false] at hp) <;> simp [-List.all_eq_true, -List.all_eq_false, Try.ntmps57, hzxs, hzLxs, hkxs, hkLxs, hwLxs, hxs, hLxs, hnxs, hnLxs, hixs, hiLxs, hgxs, hgLxs, hwxs, newA, ldN, stN, putAt, Nat.add_assoc, hq, *])
    | (refine goR_not _ (fun hq => ?_) (fun hq => ?_) <;> (have hp := hq) <;> (try simp [-List.all_eq_true, -List.all_eq_false] at hp) <;> simp [-List.all_eq_true, -List.all_eq_false, Try.ntmps57, hzxs, hzLxs, hkxs, hkLxs, hwLxs, hxs, hLxs, hnxs, hnLxs, hixs, hiLxs, hgxs, hgLxs, hwxs, newA, ldN, stN, putAt, Nat.add_assoc, hq, *])
    | (refine goR_want _ (fun hq => ?_) (fun hq => ?_) <;> (have hp := hq) <;> (try simp [-List.all_eq_true, -List.all_eq_false] at hp) <;> simp [-List.all_eq_true, -List.all_eq_false, Try.ntmps57, hzxs, hzLxs, hkxs, hkLxs, hwLxs, hxs, hLxs, hnxs, hnLxs, hixs, hiLxs, hgxs, hgLxs, hwxs, newA, ldN, stN, putAt, Nat.add_assoc, hq, *])
    | (refine condQ_dec _ (fun hq => ?_) (fun hq => ?_) <;> (have hp := hq) <;> (try simp [-List.all_eq_true, -List.all_eq_false] at hp) <;> simp [-List.all_eq_true, -List.all_eq_false, Try.ntmps57, hzxs, hzLxs, hkxs, hkLxs, hwLxs, hxs, hLxs, hnxs, hnLxs, hixs, hiLxs, hgxs, hgLxs, hwxs, newA, ldN, stN, putAt, Nat.add_assoc, hq, *])
    | (refine condQ_ndec _ (fun hq => ?_) (fun hq => ?_) <;> (have hp := hq) <;> (try simp [-List.all_eq_true, -List.all_eq_false] at hp) <;> simp [-List.all_eq_true, -List.all_eq_false, Try.ntmps57, hzxs, hzLxs, hkxs, hkLxs, hwLxs, hxs, hLxs, hnxs, hnLxs, hixs, hiLxs, hgxs, hgLxs, hwxs, newA, ldN, stN, putAt, Nat.add_assoc, hq, *])
    | (refine condQ_not _ (fun hq => ?_) (fun hq => ?_) <;> (have hp := hq) <;> (try simp [-List.all_eq_true, -List.all_eq_false] at hp) <;> simp [-List.all_eq_true, -List.all_eq_false, Try.ntmps57, hzxs, hzLxs, hkxs, hkLxs, hwLxs, hxs, hLxs, hnxs, hnLxs, hixs, hiLxs, hgxs, hgLxs, hwxs, newA, ldN, stN, putAt, Nat.add_assoc, hq, *])
    | (refine condQ_bool _ (fun hq => ?_) (fun hq => ?_) <;> (have hp := hq) <;> (try simp [-List.all_eq_true, -List.all_eq_false] at hp) <;> simp [-List.all_eq_true, -List.all_eq_false, Try.ntmps57, hzxs, hzLxs, hkxs, hkLxs, hwLxs, hxs, hLxs, hnxs, hnLxs, hixs, hiLxs, hgxs, hgLxs, hwxs, newA, ldN, stN, putAt, Nat.add_assoc, hq, *])
    | simp (disch := omega) [-List.all_eq_true, -List.all_eq_false, Try.ntmps57, hzxs, hzLxs, hkxs, hkLxs, hwLxs, hxs, hLxs, hnxs, hnLxs, hixs, hiLxs, hgxs, hgLxs, hwxs, newA, ldN, stN, putAt, Nat.add_assoc, *]
  all_goals first | exact ret_here hws (by first | (simp [-List.all_eq_true, -List.all_eq_false, resA, resA1, newA, ldN, stN, *]; done) | (simp [-List.all_eq_true, -List.all_eq_false, resA, resA1, newA, ldN, stN, *] <;> omega) | (simp [-List.all_eq_true, -List.all_eq_false, resA, resA1, newA, ldN, stN, *] <;> intros <;> simp_all [-List.all_eq_true, -List.all_eq_false])) (by first | (simp [-List.all_eq_true, -List.all_eq_false, resA, resA1, newA, ldN, stN, *]; done) | (simp [-List.all_eq_true, -List.all_eq_false, resA, resA1, newA, ldN, stN, *] <;> omega) | (simp [-List.all_eq_true, -List.all_eq_false, resA, resA1, newA, ldN, stN, *] <;> intros <;> simp_all [-List.all_eq_true, -List.all_eq_false])) | exact ret_same hws (by first | (simp [-List.all_eq_true, -List.all_eq_false, resA, resA1, newA, ldN, stN, *]; done) | (simp [-List.all_eq_true, -List.all_eq_false, resA, resA1, newA, ldN, stN, *] <;> omega) | (simp [-List.all_eq_true, -List.all_eq_false, resA, resA1, newA, ldN, stN, *] <;> intros <;> simp_all [-List.all_eq_true, -List.all_eq_false])) (by first | (simp [-List.all_eq_true, -List.all_eq_false, resA, resA1, newA, ldN, stN, *]; done) | (simp [-List.all_eq_true, -List.all_eq_false, resA, resA1, newA, ldN, stN, *] <;> omega) | (simp [-List.all_eq_true, -List.all_eq_false, resA, resA1, newA, ldN, stN, *] <;> intros <;> simp_all [-List.all_eq_true, -List.all_eq_false]))
def F_impl_length_float32 : List AV → Heap → Option (AV × Heap)
  | [s], H => (rd cF H s).bind fun xs => some (.int .i64 xs.length, H)
  | _, _ => none
theorem F_impl_length_float32_ok : FunOk Try.prog 57 F_impl_length_float32 := by
  intro args H r H' h
  unfold F_impl_length_float32 at h
  split at h
  · obtain ⟨xs, hxs, h⟩ := Option.bind_eq_some_iff.1 h
    simp only [Option.some.injEq, Prod.mk.injEq] at h
    obtain ⟨rfl, rfl⟩ := h
    exact F_impl_length_float32_fn _ _ _ hxs
  · cases h
/-- impl.inRange -/
theorem F_impl_inRange_fn (a b c : Int) ( H : Heap)  : FnOk Try.prog 63 [.int .i64 a, .int .i64 b, .int .i64 c] H (.bool (decide (b ≤ a) && decide (a ≤ c))) (H) := by
  have hO : SoundO Try.prog (tab []) := (tab_nil _)
  refine FnOk_of hO Try.func63 Try.call63 rfl fun hws hin => awp_ok hO _ _ _ _ ?_
  by_cases h : b ≤ a
  · simp [Try.ntmps63, h]
    exact ret_here hws (by simp) (by simp)
  · simp [Try.ntmps63, h]
    exact ret_here hws (by simp) (by simp)
def F_impl_inRange : List AV → Heap → Option (AV × Heap)
  | [.int .i64 a, .int .i64 b, .int .i64 c], H => some (.bool (decide (b ≤ a) && decide (a ≤ c)), H)
  | _, _ => none
theorem F_impl_inRange_ok : FunOk Try.prog 63 F_impl_inRange := by
  intro args H r H' h
  unfold F_impl_inRange at h
  split at h
  · simp only [Option.some.injEq, Prod.mk.injEq] at h
    obtain ⟨rfl, rfl⟩ := h
    exact F_impl_inRange_fn _ _ _ _ 
  · cases h
/-- impl.isList -/
theorem F_impl_isList_fn (s : AV) (m : Int) ( H : Heap) (xs : List Nat) (hxs : rd cF H s = some xs) : FnOk Try.prog 38 [s, .int .i64 m] H (.bool ((decide (1 ≤ (xs.length : Int)) && decide ((xs.length : Int) ≤ m)) && xs.all sfin)) (H) := by
  have hO : SoundO Try.prog (tab [(57, F_impl_length_float32), (63, F_impl_inRange), (44, F_impl_areFinite)]) := (tab_cons F_impl_length_float32_ok (tab_cons F_impl_inRange_ok (tab_cons F_impl_areFinite_ok (tab_nil _))))
  refine FnOk_of hO Try.func38 Try.call38 rfl fun hws hin => awp_ok hO _ _ _ _ ?_
  have hbxs := rd_bound hxs
  have hwxs := rd_within hxs
  have hLxs := fun L => rd_app hxs L
  have hnxs := rd_lenA hxs Try.underlying22
  have hnLxs := fun L => rd_lenA (hLxs L) Try.underlying22
  have hixs := fun i (hi : i < xs.length) => rd_idx hxs Try.underlying22 sz23 .i64 i hi
  have hiLxs := fun L i (hi : i < xs.length) => rd_idx (hLxs L) Try.underlying22 sz23 .i64 i hi
  have hgxs := fun i (hi : i < xs.length) => rd_ld hxs Try.underlying23 rfl i hi
  have hgLxs := fun L i (hi : i < xs.length) => rd_ld (hLxs L) Try.underlying23 rfl i hi
  simp only [cF_en, cI_en, cB_en, cD_en, cU8_en] at hgxs hgLxs
  have hwLxs := fun m => within_mono (Nat.le_add_right _ m) s hwxs
  cases h : (decide (1 ≤ (xs.length : Int)) && decide ((xs.length : Int) ≤ m))
  · have h' : ¬ (1 ≤ (xs.length : Int) ∧ (xs.length : Int) ≤ m) := by simpa using h
    simp [Try.ntmps38, F_impl_length_float32, F_impl_inRange, F_impl_areFinite, hwLxs, hxs, hLxs, hnxs, hnLxs, hixs, hiLxs, hgxs, hgLxs, hwxs, h, h']
    exact ret_here hws (by simp) (by simp)
  · have h' : 1 ≤ (xs.length : Int) ∧ (xs.length : Int) ≤ m := by simpa using h
    simp [Try.ntmps38, F_impl_length_float32, F_impl_inRange, F_impl_areFinite, hwLxs, hxs, hLxs, hnxs, hnLxs, hixs, hiLxs, hgxs, hgLxs, hwxs, h, h']
    exact ret_here hws (by simp) (by simp)
def F_impl_isList : List AV → Heap → Option (AV × Heap)
  | [s, .int .i64 m], H => (rd cF H s).bind fun xs => some (.bool ((decide (1 ≤ (xs.length : Int)) && decide ((xs.length : Int) ≤ m)) && xs.all sfin), H)
  | _, _ => none
theorem F_impl_isList_ok : FunOk Try.prog 38 F_impl_isList := by
  intro args H r H' h
  unfold F_impl_isList at h
  split at h
  · obtain ⟨xs, hxs, h⟩ := Option.bind_eq_some_iff.1 h
    simp only [Option.some.injEq, Prod.mk.injEq] at h
    obtain ⟨rfl, rfl⟩ := h
    exact F_impl_isList_fn _ _ _ _ hxs
  · cases h
/-- spec.l02Finite -/
theorem F_spec_l02Finite_fn (s : AV) ( H : Heap) (xs : List Nat) (hxs : rd cF H s = some xs) : FnOk Try.prog 35 [s] H (.bool (xs.all sfin)) (H) := by
  have hO : SoundO Try.prog (tab [(36, F_spec_l01Finite)]) := (tab_cons F_spec_l01Finite_ok (tab_nil _))
  refine FnOk_of hO Try.func35 Try.call35 rfl fun hws hin => awp_ok hO _ _ _ _ ?_
  have hbxs := rd_bound hxs
  have hwxs := rd_within hxs
  have hLxs := fun L => rd_app hxs L
  have hnxs := rd_lenA hxs Try.underlying22
  have hnLxs := fun L => rd_lenA (hLxs L) Try.underlying22
  have hixs := fun i (hi : i < xs.length) => rd_idx hxs Try.underlying22 sz23 .i64 i hi
  have hiLxs := fun L i (hi : i < xs.length) => rd_idx (hLxs L) Try.underlying22 sz23 .i64 i hi
  have hgxs := fun i (hi : i < xs.length) => rd_ld hxs Try.underlying23 rfl i hi
  have hgLxs := fun L i (hi : i < xs.length) => rd_ld (hLxs L) Try.underlying23 rfl i hi
  simp only [cF_en, cI_en, cB_en, cD_en, cU8_en] at hgxs hgLxs
  have hwLxs := fun m => within_mono (Nat.le_add_right _ m) s hwxs
  simp [Try.ntmps35, F_spec_l01Finite, hwLxs, hxs, hLxs, hnxs, hnLxs, hixs, hiLxs, hgxs, hgLxs, hwxs]
  refine TW_count hO xs.length (fun k => [s, .top, .bool false, .int .i64 k, .top, .top, .top, .top, .top, .top, .top, .top, .top, .top, .top, .top]) (fun k => H) (fun k => ∀ (j : Nat) (hj : j < xs.length), j < k → sfin xs[j] = true) (by simp) ?_ ?_
  · refine Wk.here (by simp) hws ?_
    simp [Try.ntmps35, F_spec_l01Finite, hwLxs, hxs, hLxs, hnxs, hnLxs, hixs, hiLxs, hgxs, hgLxs, hwxs]
  · intro k hk hR
    by_cases hlt : k < xs.length
    · have hw1 := wrap1 k (by unfold maxL at hbxs; omega)
      cases hb : sfin xs[k] with
      | true =>
        simp [Try.ntmps35, F_spec_l01Finite, hwLxs, hxs, hLxs, hnxs, hnLxs, hixs, hiLxs, hgxs, hgLxs, hwxs, hlt, hw1, hb]
        refine ⟨?_, Wk.here (by simp) hws ?_⟩
        · exact step_R (fun x => sfin x = true) hlt hR hb
        · simp [Try.ntmps35, F_spec_l01Finite, hwLxs, hxs, hLxs, hnxs, hnLxs, hixs, hiLxs, hgxs, hgLxs, hwxs]
      | false =>
        simp [Try.ntmps35, F_spec_l01Finite, hwLxs, hxs, hLxs, hnxs, hnLxs, hixs, hiLxs, hgxs, hgLxs, hwxs, hlt, hw1, hb]
        exact ret_here hws (by simp only [allFin_no hlt hb]; simp) (by simp)
    · have : k = xs.length := by omega
      subst this
      have hal := allFin_of hR
      simp [Try.ntmps35, F_spec_l01Finite, hwLxs, hxs, hLxs, hnxs, hnLxs, hixs, hiLxs, hgxs, hgLxs, hwxs, hlt]
      exact ret_here hws (by simp only [hal]; simp) (by simp)
def F_spec_l02Finite : List AV → Heap → Option (AV × Heap)
  | [s], H => (rd cF H s).bind fun xs => some (.bool (xs.all sfin), H)
  | _, _ => none
theorem F_spec_l02Finite_ok : FunOk Try.prog 35 F_spec_l02Finite := by
  intro args H r H' h
  unfold F_spec_l02Finite at h
  split at h
  · obtain ⟨xs, hxs, h⟩ := Option.bind_eq_some_iff.1 h
    simp only [Option.some.injEq, Prod.mk.injEq] at h
    obtain ⟨rfl, rfl⟩ := h
    exact F_spec_l02Finite_fn _ _ _ hxs
  · cases h
end Go.Proofs.Ytbhmllcnfdndhaa.AM
