/- Contracts: P1. -/
import Derived.Test.YtbhmllcnfdndhaaP0
namespace Go.Proofs.Ytbhmllcnfdndhaa.AM
open Go.Proofs
set_option maxRecDepth 100000
set_option maxHeartbeats 4000000
set_option linter.unusedSimpArgs false
set_option linter.unusedVariables false
/-- impl.mul -/
theorem F_impl_mul_fn (x y : Nat) ( H : Heap)  : FnOk Try.prog 40 [.flt .f32 x, .flt .f32 y] H (.flt .f32 (fmul .f32 x y)) (H) := by
  have hO : SoundO Try.prog (tab []) := (tab_nil _)
  refine FnOk_of hO Try.func40 Try.call40 rfl fun hws hin => awp_ok hO _ _ _ _ ?_
  simp [-List.all_eq_true, -List.all_eq_false, Try.ntmps40, newA, ldN, stN, putAt, Nat.add_assoc]
  repeat' first
    | (refine goR_dec _ (fun hq => ?_) (fun hq => ?_) <;> (have hp := hq) <;> (try simp [-List.all_eq_true, -List.all_eq_false] at hp) <;> simp [-List.all_eq_true, -List.all_eq_false, Try.ntmps40, newA, ldN, stN, putAt, Nat.add_assoc, hq, *])
    | (refine goR_ndec _ (fun hq => ?_) (fun hq => ?_) <;> (have hp := hq) <;> (try simp [-List.all_eq_true, -List.all_eq_false] at hp) <;> simp [-List.all_eq_true, -List.all_eq_false, Try.ntmps40, newA, ldN, stN, putAt, Nat.add_assoc, hq, *])
    | (refine goR_not _ (fun hq => ?_) (fun hq => ?_) <;> (have hp := hq) <;> (try simp [-List.all_eq_true, -List.all_eq_false] at hp) <;> simp [-List.all_eq_true, -List.all_eq_false, Try.ntmps40, newA, ldN, stN, putAt, Nat.add_assoc, hq, *])
    | (refine goR_want _ (fun hq => ?_) (fun hq => ?_) <;> (have hp := hq) <;> (try simp [-List.all_eq_true, -List.all_eq_false] at hp) <;> simp [-List.all_eq_true, -List.all_eq_false, Try.ntmps40, newA, ldN, stN, putAt, Nat.add_assoc, hq, *])
    | (refine condQ_dec _ (fun hq => ?_) (fun hq => ?_) <;> (have hp := hq) <;> (try simp [-List.all_eq_true, -List.all_eq_false] at hp) <;> simp [-List.all_eq_true, -List.all_eq_false, Try.ntmps40, newA, ldN, stN, putAt, Nat.add_assoc, hq, *])
    | (refine condQ_ndec _ (fun hq => ?_) (fun hq => ?_) <;> (have hp := hq) <;> (try simp [-List.all_eq_true, -List.all_eq_false] at hp) <;> simp [-List.all_eq_true, -List.all_eq_false, Try.ntmps40, newA, ldN, stN, putAt, Nat.add_assoc, hq, *])
    | (refine condQ_not _ (fun hq => ?_) (fun hq => ?_) <;> (have hp := hq) <;> (try simp [-List.all_eq_true, -List.all_eq_false] at hp) <;> simp [-List.all_eq_true, -List.all_eq_false, Try.ntmps40, newA, ldN, stN, putAt, Nat.add_assoc, hq, *])
    | (refine condQ_bool _ (fun hq => ?_) (fun hq => ?_) <;> (have hp := hq) <;> (try simp [-List.all_eq_true, -List.all_eq_false] at hp) <;> simp [-List.all_eq_true, -List.all_eq_false, Try.ntmps40, newA, ldN, stN, putAt, Nat.add_assoc, hq, *])
    | simp (disch := omega) [-List.all_eq_true, -List.all_eq_false, Try.ntmps40, newA, ldN, stN, putAt, Nat.add_assoc, *]
  all_goals first | exact ret_here hws (by first | (simp [-List.all_eq_true, -List.all_eq_false, resA, resA1, newA, ldN, stN, *]; done) | (simp [-List.all_eq_true, -List.all_eq_false, resA, resA1, newA, ldN, stN, *] <;> omega) | (simp [-List.all_eq_true, -List.all_eq_false, resA, resA1, newA, ldN, stN, *] <;> intros <;> simp_all [-List.all_eq_true, -List.all_eq_false])) (by first | (simp [-List.all_eq_true, -List.all_eq_false, resA, resA1, newA, ldN, stN, *]; done) | (simp [-List.all_eq_true, -List.all_eq_false, resA, resA1, newA, ldN, stN, *] <;> omega) | (simp [-List.all_eq_true, -List.all_eq_false, resA, resA1, newA, ldN, stN, *] <;> intros <;> simp_all [-List.all_eq_true, -List.all_eq_false])) | exact ret_same hws (by first | (simp [-List.all_eq_true, -List.all_eq_false, resA, resA1, newA, ldN, stN, *]; done) | (simp [-List.all_eq_true, -List.all_eq_false, resA, resA1, newA, ldN, stN, *] <;> omega) | (simp [-List.all_eq_true, -List.all_eq_false, resA, resA1, newA, ldN, stN, *] <;> intros <;> simp_all [-List.all_eq_true, -List.all_eq_false])) (by first | (simp [-List.all_eq_true, -List.all_eq_false, resA, resA1, newA, ldN, stN, *]; done) | (simp [-List.all_eq_true, -List.all_eq_false, resA, resA1, newA, ldN, stN, *] <;> omega) | (simp [-List.all_eq_true, -List.all_eq_false, resA, resA1, newA, ldN, stN, *] <;> intros <;> simp_all [-List.all_eq_true, -List.all_eq_false]))
def F_impl_mul : List AV → Heap → Option (AV × Heap)
  | [.flt .f32 x, .flt .f32 y], H => some (.flt .f32 (fmul .f32 x y), H)
  | _, _ => none
theorem F_impl_mul_ok : FunOk Try.prog 40 F_impl_mul := by
  intro args H r H' h
  unfold F_impl_mul at h
  split at h
  · simp only [Option.some.injEq, Prod.mk.injEq] at h
    obtain ⟨rfl, rfl⟩ := h
    exact F_impl_mul_fn _ _ _ 
  · cases h
/-- spec.l01Finite -/
theorem F_spec_l01Finite_fn (x : Nat) ( H : Heap)  : FnOk Try.prog 36 [.flt .f32 x] H (.bool (sfin x)) (H) := by
  have hO : SoundO Try.prog (tab []) := (tab_nil _)
  refine FnOk_of hO Try.func36 Try.call36 rfl fun hws hin => awp_ok hO _ _ _ _ ?_
  simp [Try.ntmps36]
  exact ret_here hws (by simp [sfin]) (by simp)
def F_spec_l01Finite : List AV → Heap → Option (AV × Heap)
  | [.flt .f32 x], H => some (.bool (sfin x), H)
  | _, _ => none
theorem F_spec_l01Finite_ok : FunOk Try.prog 36 F_spec_l01Finite := by
  intro args H r H' h
  unfold F_spec_l01Finite at h
  split at h
  · simp only [Option.some.injEq, Prod.mk.injEq] at h
    obtain ⟨rfl, rfl⟩ := h
    exact F_spec_l01Finite_fn _ _ 
  · cases h
/-- spec.l02Number -/
theorem F_spec_l02Number_fn (x : Nat) ( H : Heap)  : FnOk Try.prog 37 [.flt .f32 x] H (.tup [.flt .f32 (if sfin x = true then x else 0), .bool (sfin x)]) (H) := by
  have hO : SoundO Try.prog (tab [(36, F_spec_l01Finite)]) := (tab_cons F_spec_l01Finite_ok (tab_nil _))
  refine FnOk_of hO Try.func37 Try.call37 rfl fun hws hin => awp_ok hO _ _ _ _ ?_
  by_cases h : sfin x = true
  · simp [Try.ntmps37, F_spec_l01Finite, h]
    exact ret_here hws (by simp) (by simp)
  · simp at h
    simp [Try.ntmps37, F_spec_l01Finite, h]
    exact ret_here hws (by simp) (by simp)
def F_spec_l02Number : List AV → Heap → Option (AV × Heap)
  | [.flt .f32 x], H => some (.tup [.flt .f32 (if sfin x = true then x else 0), .bool (sfin x)], H)
  | _, _ => none
theorem F_spec_l02Number_ok : FunOk Try.prog 37 F_spec_l02Number := by
  intro args H r H' h
  unfold F_spec_l02Number at h
  split at h
  · simp only [Option.some.injEq, Prod.mk.injEq] at h
    obtain ⟨rfl, rfl⟩ := h
    exact F_spec_l02Number_fn _ _ 
  · cases h
/-- laws.toFloat32S -/
theorem F_laws_toFloat32S_fn (s : AV) ( H : Heap) (xs : List Nat) (hxs : rd cF H s = some xs) : FnOk Try.prog 10 [s] H (.slc ⟨H.length, 0, xs.length⟩ xs.length) (H ++ [blk cF xs]) := by
  have hO : SoundO Try.prog (tab []) := (tab_nil _)
  refine FnOk_of hO Try.func10 Try.call10 rfl fun hws hin => awp_ok hO _ _ _ _ ?_
  have hbxs := rd_bound hxs
  have hwxs := rd_within hxs
  have hLxs := fun L => rd_app hxs L
  have hnxs := rd_lenA hxs Try.underlying22
  have hnLxs := fun L => rd_lenA (hLxs L) Try.underlying22
  have hixs := fun i (hi : i < xs.length) => rd_idx hxs Try.underlying22 sz23 .i64 i hi
  have hiLxs := fun L i (hi : i < xs.length) => rd_idx (hLxs L) Try.underlying22 sz23 .i64 i hi
  have hgxs := fun i (hi : i < xs.length) => rd_ld hxs Try.underlying23 rfl i hi
  have hgLxs := fun L i (hi : i < xs.length) => rd_ld (hLxs L) Try.underlying23 rfl i hi
  simp only [cF_en, cI_en, cB_en, cD_en, cU8_en] at hgxs hgLxs
  have hwLxs := fun m => within_mono (Nat.le_add_right _ m) s hwxs
  have hmk := (el22.make H .i64 .i64 xs.length hbxs)
  simp [Try.ntmps10, hwLxs, hxs, hLxs, hnxs, hnLxs, hixs, hiLxs, hgxs, hgLxs, hwxs, hmk]
  refine TW_count hO xs.length (fun k => [s, .top, .top, .slc ⟨H.length, 0, xs.length⟩ xs.length, .int .i64 k, .top, .top, .top, .top, .top, .top, .top, .top, .top, .top, .top, .top, .top, .top, .top, .top, .top]) (fun k => H ++ [blk cF (fill 0 xs k)]) (fun _ => True) trivial ?_ ?_
  · rw [fill_zero]
    refine Wk.here (by simp) (hws.blk1 _ _) ?_
    simp [Try.ntmps10, hwLxs, hxs, hLxs, hnxs, hnLxs, hixs, hiLxs, hgxs, hgLxs, hwxs]
  · intro k hk _
    by_cases hlt : k < xs.length
    · have hw1 := wrap1 k (by unfold maxL at hbxs; omega)
      simp [Try.ntmps10, hwLxs, hxs, hLxs, hnxs, hnLxs, hixs, hiLxs, hgxs, hgLxs, hwxs, hlt, fill_set, hw1]
      refine Wk.here (by simp) (hws.blk1 _ _) ?_
      simp [Try.ntmps10, hwLxs, hxs, hLxs, hnxs, hnLxs, hixs, hiLxs, hgxs, hgLxs, hwxs]
    · have : k = xs.length := by omega
      subst this
      simp [Try.ntmps10, hwLxs, hxs, hLxs, hnxs, hnLxs, hixs, hiLxs, hgxs, hgLxs, hwxs, fill_full]
      exact ret_at (by simp) (hws.blk1 _ _) (by simp) (by simp)
def F_laws_toFloat32S : List AV → Heap → Option (AV × Heap)
  | [s], H => (rd cF H s).bind fun xs => some (.slc ⟨H.length, 0, xs.length⟩ xs.length, H ++ [blk cF xs])
  | _, _ => none
theorem F_laws_toFloat32S_ok : FunOk Try.prog 10 F_laws_toFloat32S := by
  intro args H r H' h
  unfold F_laws_toFloat32S at h
  split at h
  · obtain ⟨xs, hxs, h⟩ := Option.bind_eq_some_iff.1 h
    simp only [Option.some.injEq, Prod.mk.injEq] at h
    obtain ⟨rfl, rfl⟩ := h
    exact F_laws_toFloat32S_fn _ _ _ hxs
  · cases h
/-- laws.sameFloat -/
theorem F_laws_sameFloat_fn (x y : Nat) ( H : Heap)  (hc : x = y) : FnOk Try.prog 12 [.flt .f64 x, .flt .f64 y] H (.bool true) (H) := by
  have hO : SoundO Try.prog (tab []) := (tab_nil _)
  refine FnOk_of hO Try.func12 Try.call12 rfl fun hws hin => awp_ok hO _ _ _ _ ?_
  subst hc
  by_cases h1 : feq .f64 x x = true
  · by_cases h2 : feq .f64 x 0 = true
    · simp [Try.ntmps12, h1, h2]
      exact ret_here hws (by simp) (by simp)
    · simp at h2
      simp [Try.ntmps12, h1, h2]
      exact ret_here hws (by simp) (by simp)
  · simp at h1
    simp [Try.ntmps12, h1]
    exact ret_here hws (by simp) (by simp)
def F_laws_sameFloat : List AV → Heap → Option (AV × Heap)
  | [.flt .f64 x, .flt .f64 y], H => if x = y then some (.bool true, H) else none
  | _, _ => none
theorem F_laws_sameFloat_ok : FunOk Try.prog 12 F_laws_sameFloat := by
  intro args H r H' h
  unfold F_laws_sameFloat at h
  split at h
  · split at h
    · rename_i hc
      simp only [Option.some.injEq, Prod.mk.injEq] at h
      obtain ⟨rfl, rfl⟩ := h
      exact F_laws_sameFloat_fn _ _ _  hc
    · cases h
  · cases h
/-- laws.eqFloat32S -/
theorem F_laws_eqFloat32S_fn (s t : AV) ( H : Heap) (xs : List Nat) (hxs : rd cF H s = some xs) (ys : List Nat) (hys : rd cF H t = some ys) (hc : xs = ys) : FnOk Try.prog 13 [s, t] H (.bool true) (H) := by
  have hO : SoundO Try.prog (tab [(12, F_laws_sameFloat)]) := (tab_cons F_laws_sameFloat_ok (tab_nil _))
  refine FnOk_of hO Try.func13 Try.call13 rfl fun hws hin => awp_ok hO _ _ _ _ ?_
  have hbxs := rd_bound hxs
  have hwxs := rd_within hxs
  have hLxs := fun L => rd_app hxs L
  have hnxs := rd_lenA hxs Try.underlying22
  have hnLxs := fun L => rd_lenA (hLxs L) Try.underlying22
  have hixs := fun i (hi : i < xs.length) => rd_idx hxs Try.underlying22 sz23 .i64 i hi
  have hiLxs := fun L i (hi : i < xs.length) => rd_idx (hLxs L) Try.underlying22 sz23 .i64 i hi
  have hgxs := fun i (hi : i < xs.length) => rd_ld hxs Try.underlying23 rfl i hi
  have hgLxs := fun L i (hi : i < xs.length) => rd_ld (hLxs L) Try.underlying23 rfl i hi
  simp only [cF_en, cI_en, cB_en, cD_en, cU8_en] at hgxs hgLxs
  have hwLxs := fun m => within_mono (Nat.le_add_right _ m) s hwxs
  have hbys := rd_bound hys
  have hwys := rd_within hys
  have hLys := fun L => rd_app hys L
  have hnys := rd_lenA hys Try.underlying22
  have hnLys := fun L => rd_lenA (hLys L) Try.underlying22
  have hiys := fun i (hi : i < ys.length) => rd_idx hys Try.underlying22 sz23 .i64 i hi
  have hiLys := fun L i (hi : i < ys.length) => rd_idx (hLys L) Try.underlying22 sz23 .i64 i hi
  have hgys := fun i (hi : i < ys.length) => rd_ld hys Try.underlying23 rfl i hi
  have hgLys := fun L i (hi : i < ys.length) => rd_ld (hLys L) Try.underlying23 rfl i hi
  simp only [cF_en, cI_en, cB_en, cD_en, cU8_en] at hgys hgLys
  have hwLys := fun m => within_mono (Nat.le_add_right _ m) t hwys
  subst hc
  simp [Try.ntmps13, F_laws_sameFloat, hwLxs, hxs, hLxs, hnxs, hnLxs, hixs, hiLxs, hgxs, hgLxs, hwxs, hwLys, hys, hLys, hnys, hnLys, hiys, hiLys, hgys, hgLys, hwys]
  refine TW_count hO xs.length (fun k => [s, t, .top, .top, .bool false, .int .i64 k, .top, .top, .top, .top, .top, .top, .top, .top, .top, .top, .top, .top, .top, .top, .top, .top, .top, .top, .top, .top, .top, .top, .top]) (fun k => H) (fun _ => True) trivial ?_ ?_
  · refine Wk.here (by simp) hws ?_
    simp [Try.ntmps13, F_laws_sameFloat, hwLxs, hxs, hLxs, hnxs, hnLxs, hixs, hiLxs, hgxs, hgLxs, hwxs, hwLys, hys, hLys, hnys, hnLys, hiys, hiLys, hgys, hgLys, hwys]
  · intro k hk _
    by_cases hlt : k < xs.length
    · have hw1 := wrap1 k (by unfold maxL at hbxs; omega)
      simp [Try.ntmps13, F_laws_sameFloat, hwLxs, hxs, hLxs, hnxs, hnLxs, hixs, hiLxs, hgxs, hgLxs, hwxs, hwLys, hys, hLys, hnys, hnLys, hiys, hiLys, hgys, hgLys, hwys, hlt]
      refine drawn_ok mixed hO [] (by kernel_rfl) ?_
      simp [heavy, Try.ntmps13, F_laws_sameFloat, hwLxs, hxs, hLxs, hnxs, hnLxs, hixs, hiLxs, hgxs, hgLxs, hwxs, hwLys, hys, hLys, hnys, hnLys, hiys, hiLys, hgys, hgLys, hwys, hlt, fconv_wid, hw1]
      refine Wk.here (by simp) hws ?_
      simp [Try.ntmps13, F_laws_sameFloat, hwLxs, hxs, hLxs, hnxs, hnLxs, hixs, hiLxs, hgxs, hgLxs, hwxs, hwLys, hys, hLys, hnys, hnLys, hiys, hiLys, hgys, hgLys, hwys]
    · have : k = xs.length := by omega
      simp [Try.ntmps13, F_laws_sameFloat, hwLxs, hxs, hLxs, hnxs, hnLxs, hixs, hiLxs, hgxs, hgLxs, hwxs, hwLys, hys, hLys, hnys, hnLys, hiys, hiLys, hgys, hgLys, hwys, hlt]
      exact ret_here hws (by simp) (by simp)
def F_laws_eqFloat32S : List AV → Heap → Option (AV × Heap)
  | [s, t], H => (rd cF H s).bind fun xs => (rd cF H t).bind fun ys => if xs = ys then some (.bool true, H) else none
  | _, _ => none
theorem F_laws_eqFloat32S_ok : FunOk Try.prog 13 F_laws_eqFloat32S := by
  intro args H r H' h
  unfold F_laws_eqFloat32S at h
  split at h
  · obtain ⟨xs, hxs, h⟩ := Option.bind_eq_some_iff.1 h
    obtain ⟨ys, hys, h⟩ := Option.bind_eq_some_iff.1 h
    split at h
    · rename_i hc
      simp only [Option.some.injEq, Prod.mk.injEq] at h
      obtain ⟨rfl, rfl⟩ := h
      exact F_laws_eqFloat32S_fn _ _ _ _ hxs _ hys hc
    · cases h
  · cases h
/-- math.IsNaN -/
theorem F_math_IsNaN_fn (x : Nat) ( H : Heap)  : FnOk Try.prog 73 [.flt .f64 x] H (.bool (!feq .f64 x x)) (H) := by
  have hO : SoundO Try.prog (tab []) := (tab_nil _)
  refine FnOk_of hO Try.func73 Try.call73 rfl fun hws hin => awp_ok hO _ _ _ _ ?_
  simp [-List.all_eq_true, -List.all_eq_false, Try.ntmps73, newA, ldN, stN, putAt, Nat.add_assoc]
  repeat' first
    | (refine goR_dec _ (fun hq => ?_) (fun hq => ?_) <;> (have hp := hq) <;> (try simp [-List.all_eq_true, -List.all_eq_false] at hp) <;> simp [-List.all_eq_true, -List.all_eq_false, Try.ntmps73, newA, ldN, stN, putAt, Nat.add_assoc, hq, *])
    | (refine goR_ndec _ (fun hq => ?_) (fun hq => ?_) <;> (have hp := hq) <;> (try simp [-List.all_eq_true, -List.all_eq_false] at hp) <;> simp [-List.all_eq_true, -List.all_eq_false, Try.ntmps73, newA, ldN, stN, putAt, Nat.add_assoc, hq, *])
    | (refine goR_not _ (fun hq => ?_) (fun hq => ?_) <;> (have hp := hq) <;> (try simp [-List.all_eq_true, -List.all_eq_false] at hp) <;> simp [-List.all_eq_true, -List.all_eq_false, Try.ntmps73, newA, ldN, stN, putAt, Nat.add_assoc, hq, *])
    | (refine goR_want _ (fun hq => ?_) (fun hq => ?_) <;> (have hp := hq) <;> (try simp [-List.all_eq_true, -List.all_eq_false] at hp) <;> simp [-List.all_eq_true, -List.all_eq_false, Try.ntmps73, newA, ldN, stN, putAt, Nat.add_assoc, hq, *])
    | (refine condQ_dec _ (fun hq => ?_) (fun hq => ?_) <;> (have hp := hq) <;> (try simp [-List.all_eq_true, -List.all_eq_false] at hp) <;> simp [-List.all_eq_true, -List.all_eq_false, Try.ntmps73, newA, ldN, stN, putAt, Nat.add_assoc, hq, *])
    | (refine condQ_ndec _ (fun hq => ?_) (fun hq => ?_) <;> (have hp := hq) <;> (try simp [-List.all_eq_true, -List.all_eq_false] at hp) <;> simp [-List.all_eq_true, -List.all_eq_false, Try.ntmps73, newA, ldN, stN, putAt, Nat.add_assoc, hq, *])
    | (refine condQ_not _ (fun hq => ?_) (fun hq => ?_) <;> (have hp := hq) <;> (try simp [-List.all_eq_true, -List.all_eq_false] at hp) <;> simp [-List.all_eq_true, -List.all_eq_false, Try.ntmps73, newA, ldN, stN, putAt, Nat.add_assoc, hq, *])
    | (refine condQ_bool _ (fun hq => ?_) (fun hq => ?_) <;> (have hp := hq) <;> (try simp [-List.all_eq_true, -List.all_eq_false] at hp) <;> simp [-List.all_eq_true, -List.all_eq_false, Try.ntmps73, newA, ldN, stN, putAt, Nat.add_assoc, hq, *])
    | simp (disch := omega) [-List.all_eq_true, -List.all_eq_false, Try.ntmps73, newA, ldN, stN, putAt, Nat.add_assoc, *]
  all_goals first | exact ret_here hws (by first | (simp [-List.all_eq_true, -List.all_eq_false, resA, resA1, newA, ldN, stN, *]; done) | (simp [-List.all_eq_true, -List.all_eq_false, resA, resA1, newA, ldN, stN, *] <;> omega) | (simp [-List.all_eq_true, -List.all_eq_false, resA, resA1, newA, ldN, stN, *] <;> intros <;> simp_all [-List.all_eq_true, -List.all_eq_false])) (by first | (simp [-List.all_eq_true, -List.all_eq_false, resA, resA1, newA, ldN, stN, *]; done) | (simp [-List.all_eq_true, -List.all_eq_false, resA, resA1, newA, ldN, stN, *] <;> omega) | (simp [-List.all_eq_true, -List.all_eq_false, resA, resA1, newA, ldN, stN, *] <;> intros <;> simp_all [-List.all_eq_true, -List.all_eq_false])) | exact ret_same hws (by first | (simp [-List.all_eq_true, -List.all_eq_false, resA, resA1, newA, ldN, stN, *]; done) | (simp [-List.all_eq_true, -List.all_eq_false, resA, resA1, newA, ldN, stN, *] <;> omega) | (simp [-List.all_eq_true, -List.all_eq_false, resA, resA1, newA, ldN, stN, *] <;> intros <;> simp_all [-List.all_eq_true, -List.all_eq_false])) (by first | (simp [-List.all_eq_true, -List.all_eq_false, resA, resA1, newA, ldN, stN, *]; done) | (simp [-List.all_eq_true, -List.all_eq_false, resA, resA1, newA, ldN, stN, *] <;> omega) | (simp [-List.all_eq_true, -List.all_eq_false, resA, resA1, newA, ldN, stN, *] <;> intros <;> simp_all [-List.all_eq_true, -List.all_eq_false]))
def F_math_IsNaN : List AV → Heap → Option (AV × Heap)
  | [.flt .f64 x], H => some (.bool (!feq .f64 x x), H)
  | _, _ => none
theorem F_math_IsNaN_ok : FunOk Try.prog 73 F_math_IsNaN := by
  intro args H r H' h
  unfold F_math_IsNaN at h
  split at h
  · simp only [Option.some.injEq, Prod.mk.injEq] at h
    obtain ⟨rfl, rfl⟩ := h
    exact F_math_IsNaN_fn _ _ 
  · cases h
/-- math.IsInf -/
theorem F_math_IsInf_fn (x : Nat) ( H : Heap)  : FnOk Try.prog 74 [.flt .f64 x, .int .i64 0] H (.bool (fgrt .f64 (fabs x) maxF64)) (H) := by
  have hO : SoundO Try.prog (tab [(77, F_math_Abs)]) := (tab_cons F_math_Abs_ok (tab_nil _))
  refine FnOk_of hO Try.func74 Try.call74 rfl fun hws hin => awp_ok hO _ _ _ _ ?_
  simp [Try.ntmps74, F_math_Abs]
  exact ret_here hws (by simp [maxF64]) (by simp)
def F_math_IsInf : List AV → Heap → Option (AV × Heap)
  | [.flt .f64 x, .int .i64 0], H => some (.bool (fgrt .f64 (fabs x) maxF64), H)
  | _, _ => none
theorem F_math_IsInf_ok : FunOk Try.prog 74 F_math_IsInf := by
  intro args H r H' h
  unfold F_math_IsInf at h
  split at h
  · simp only [Option.some.injEq, Prod.mk.injEq] at h
    obtain ⟨rfl, rfl⟩ := h
    exact F_math_IsInf_fn _ _ 
  · cases h
/-- impl.isFinite64 -/
theorem F_impl_isFinite64_fn (x : Nat) ( H : Heap)  : FnOk Try.prog 64 [.flt .f64 x] H (.bool (feq .f64 x x && !fgrt .f64 (fabs x) maxF64)) (H) := by
  have hO : SoundO Try.prog (tab [(73, F_math_IsNaN), (74, F_math_IsInf)]) := (tab_cons F_math_IsNaN_ok (tab_cons F_math_IsInf_ok (tab_nil _)))
  refine FnOk_of hO Try.func64 Try.call64 rfl fun hws hin => awp_ok hO _ _ _ _ ?_
  by_cases h : feq .f64 x x = true
  · simp [Try.ntmps64, F_math_IsNaN, F_math_IsInf, h]
    exact ret_here hws (by simp) (by simp)
  · simp at h
    simp [Try.ntmps64, F_math_IsNaN, F_math_IsInf, h]
    exact ret_here hws (by simp) (by simp)
def F_impl_isFinite64 : List AV → Heap → Option (AV × Heap)
  | [.flt .f64 x], H => some (.bool (feq .f64 x x && !fgrt .f64 (fabs x) maxF64), H)
  | _, _ => none
theorem F_impl_isFinite64_ok : FunOk Try.prog 64 F_impl_isFinite64 := by
  intro args H r H' h
  unfold F_impl_isFinite64 at h
  split at h
  · simp only [Option.some.injEq, Prod.mk.injEq] at h
    obtain ⟨rfl, rfl⟩ := h
    exact F_impl_isFinite64_fn _ _ 
  · cases h
/-- impl.IsFinite -/
theorem F_impl_IsFinite_fn (x : Nat) ( H : Heap)  : FnOk Try.prog 39 [.flt .f32 x] H (.bool (sfin x)) (H) := by
  have hO : SoundO Try.prog (tab [(64, F_impl_isFinite64)]) := (tab_cons F_impl_isFinite64_ok (tab_nil _))
  refine FnOk_of hO Try.func39 Try.call39 rfl fun hws hin => awp_ok hO _ _ _ _ ?_
  simp [Try.ntmps39, F_impl_isFinite64, fconv_wid]
  exact ret_here hws (by simp [← ifin]) (by simp)
def F_impl_IsFinite : List AV → Heap → Option (AV × Heap)
  | [.flt .f32 x], H => some (.bool (sfin x), H)
  | _, _ => none
theorem F_impl_IsFinite_ok : FunOk Try.prog 39 F_impl_IsFinite := by
  intro args H r H' h
  unfold F_impl_IsFinite at h
  split at h
  · simp only [Option.some.injEq, Prod.mk.injEq] at h
    obtain ⟨rfl, rfl⟩ := h
    exact F_impl_IsFinite_fn _ _ 
  · cases h
/-- impl.finite -/
theorem F_impl_finite_fn (x : Nat) ( H : Heap)  : FnOk Try.prog 41 [.flt .f32 x] H (.tup [.flt .f32 (if sfin x = true then x else 0), .bool (sfin x)]) (H) := by
  have hO : SoundO Try.prog (tab [(39, F_impl_IsFinite)]) := (tab_cons F_impl_IsFinite_ok (tab_nil _))
  refine FnOk_of hO Try.func41 Try.call41 rfl fun hws hin => awp_ok hO _ _ _ _ ?_
  by_cases h : sfin x = true
  · simp [Try.ntmps41, F_impl_IsFinite, h]
    exact ret_here hws (by simp) (by simp)
  · simp at h
    simp [Try.ntmps41, F_impl_IsFinite, h]
    exact ret_here hws (by simp) (by simp)
def F_impl_finite : List AV → Heap → Option (AV × Heap)
  | [.flt .f32 x], H => some (.tup [.flt .f32 (if sfin x = true then x else 0), .bool (sfin x)], H)
  | _, _ => none
theorem F_impl_finite_ok : FunOk Try.prog 41 F_impl_finite := by
  intro args H r H' h
  unfold F_impl_finite at h
  split at h
  · simp only [Option.some.injEq, Prod.mk.injEq] at h
    obtain ⟨rfl, rfl⟩ := h
    exact F_impl_finite_fn _ _ 
  · cases h
/-- impl.areFinite$1 -/
theorem F_impl_areFinite_1_fn (x : Nat) ( H : Heap)  : FnOk Try.prog 66 [.flt .f32 x] H (.bool (!sfin x)) (H) := by
  have hO : SoundO Try.prog (tab [(39, F_impl_IsFinite)]) := (tab_cons F_impl_IsFinite_ok (tab_nil _))
  refine FnOk_of hO Try.func66 Try.call66 rfl fun hws hin => awp_ok hO _ _ _ _ ?_
  simp [-List.all_eq_true, -List.all_eq_false, Try.ntmps66, F_impl_IsFinite, newA, ldN, stN, putAt, Nat.add_assoc]
  repeat' first
    | (refine goR_dec _ (fun hq => ?_) (fun hq => ?_) <;> (have hp := hq) <;> (try simp [-List.all_eq_true, -List.all_eq_false] at hp) <;> simp [-List.all_eq_true, -List.all_eq_false, Try.ntmps66, F_impl_IsFinite, newA, ldN, stN, putAt, Nat.add_assoc, hq, *])
    | (refine goR_ndec _ (fun hq => ?_) (fun hq => ?_) <;> (have hp := hq) <;> (try simp [-List.all_eq_true, -List.all_eq_false] at hp) <;> simp [-List.all_eq_true, -List.all_eq_false, Try.ntmps66, F_impl_IsFinite, newA, ldN, stN, putAt, Nat.add_assoc, hq, *])
    | (refine goR_not _ (fun hq => ?_) (fun hq => ?_) <;> (have hp := hq) <;> (try simp [-List.all_eq_true, -List.all_eq_false] at hp) <;> simp [-List.all_eq_true, -List.all_eq_false, Try.ntmps66, F_impl_IsFinite, newA, ldN, stN, putAt, Nat.add_assoc, hq, *])
    | (refine goR_want _ (fun hq => ?_) (fun hq => ?_) <;> (have hp := hq) <;> (try simp [-List.all_eq_true, -List.all_eq_false] at hp) <;> simp [-List.all_eq_true, -List.all_eq_false, Try.ntmps66, F_impl_IsFinite, newA, ldN, stN, putAt, Nat.add_assoc, hq, *])
    | (refine condQ_dec _ (fun hq => ?_) (fun hq => ?_) <;> (have hp := hq) <;> (try simp [-List.all_eq_true, -List.all_eq_false] at hp) <;> simp [-List.all_eq_true, -List.all_eq_false, Try.ntmps66, F_impl_IsFinite, newA, ldN, stN, putAt, Nat.add_assoc, hq, *])
    | (refine condQ_ndec _ (fun hq => ?_) (fun hq => ?_) <;> (have hp := hq) <;> (try simp [-List.all_eq_true, -List.all_eq_false] at hp) <;> simp [-List.all_eq_true, -List.all_eq_false, Try.ntmps66, F_impl_IsFinite, newA, ldN, stN, putAt, Nat.add_assoc, hq, *])
    | (refine condQ_not _ (fun hq => ?_) (fun hq => ?_) <;> (have hp := hq) <;> (try simp [-List.all_eq_true, -List.all_eq_false] at hp) <;> simp [-List.all_eq_true, -List.all_eq_false, Try.ntmps66, F_impl_IsFinite, newA, ldN, stN, putAt, Nat.add_assoc, hq, *])
    | (refine condQ_bool _ (fun hq => ?_) (fun hq => ?_) <;> (have hp := hq) <;> (try simp [-List.all_eq_true, -List.all_eq_false] at hp) <;> simp [-List.all_eq_true, -List.all_eq_false, Try.ntmps66, F_impl_IsFinite, newA, ldN, stN, putAt, Nat.add_assoc, hq, *])
    | simp (disch := omega) [-List.all_eq_true, -List.all_eq_false, Try.ntmps66, F_impl_IsFinite, newA, ldN, stN, putAt, Nat.add_assoc, *]
  all_goals first | exact ret_here hws (by first | (simp [-List.all_eq_true, -List.all_eq_false, resA, resA1, newA, ldN, stN, *]; done) | (simp [-List.all_eq_true, -List.all_eq_false, resA, resA1, newA, ldN, stN, *] <;> omega) | (simp [-List.all_eq_true, -List.all_eq_false, resA, resA1, newA, ldN, stN, *] <;> intros <;> simp_all [-List.all_eq_true, -List.all_eq_false])) (by first | (simp [-List.all_eq_true, -List.all_eq_false, resA, resA1, newA, ldN, stN, *]; done) | (simp [-List.all_eq_true, -List.all_eq_false, resA, resA1, newA, ldN, stN, *] <;> omega) | (simp [-List.all_eq_true, -List.all_eq_false, resA, resA1, newA, ldN, stN, *] <;> intros <;> simp_all [-List.all_eq_true, -List.all_eq_false])) | exact ret_same hws (by first | (simp [-List.all_eq_true, -List.all_eq_false, resA, resA1, newA, ldN, stN, *]; done) | (simp [-List.all_eq_true, -List.all_eq_false, resA, resA1, newA, ldN, stN, *] <;> omega) | (simp [-List.all_eq_true, -List.all_eq_false, resA, resA1, newA, ldN, stN, *] <;> intros <;> simp_all [-List.all_eq_true, -List.all_eq_false])) (by first | (simp [-List.all_eq_true, -List.all_eq_false, resA, resA1, newA, ldN, stN, *]; done) | (simp [-List.all_eq_true, -List.all_eq_false, resA, resA1, newA, ldN, stN, *] <;> omega) | (simp [-List.all_eq_true, -List.all_eq_false, resA, resA1, newA, ldN, stN, *] <;> intros <;> simp_all [-List.all_eq_true, -List.all_eq_false]))
def F_impl_areFinite_1 : List AV → Heap → Option (AV × Heap)
  | [.flt .f32 x], H => some (.bool (!sfin x), H)
  | _, _ => none
theorem F_impl_areFinite_1_ok : FunOk Try.prog 66 F_impl_areFinite_1 := by
  intro args H r H' h
  unfold F_impl_areFinite_1 at h
  split at h
  · simp only [Option.some.injEq, Prod.mk.injEq] at h
    obtain ⟨rfl, rfl⟩ := h
    exact F_impl_areFinite_1_fn _ _ 
  · cases h
end Go.Proofs.Ytbhmllcnfdndhaa.AM
