/- Contracts: P3. -/
import Derived.Test.YtbhmllcnfdndhaaP2
namespace Go.Proofs.Ytbhmllcnfdndhaa.AM
open Go.Proofs
set_option maxRecDepth 100000
set_option maxHeartbeats 4000000
set_option linter.unusedSimpArgs false
set_option linter.unusedVariables false

def newtOk (xs ds : List Nat) (a : Nat) : Bool := decide (1 ≤ xs.length) && (decide (xs.length ≤ 32) && (decide (ds.length = xs.length) && (xs.all sfin && (ds.all sfin && sfin a))))
def newtV (xs ds : List Nat) (a : Nat) : AV :=
  if newtOk xs ds a = true then .tup [.flt .f32 (if sfin (newt xs ds a (xs.length - 1)) = true then newt xs ds a (xs.length - 1) else 0), .bool (sfin (newt xs ds a (xs.length - 1)))]
  else .tup [.flt .f32 0, .bool false]
theorem newtV_within (n : Nat) (xs ds : List Nat) (a : Nat) : (newtV xs ds a).within n = true := by unfold newtV; split <;> simp
theorem newt_step (xs ds : List Nat) (a k i : Nat) (hl : ds.length = xs.length) (hi : i < xs.length) (he : i + 2 + k = xs.length) : newt xs ds a (k + 1) = fadd .f32 (fmul .f32 (newt xs ds a k) (fsub .f32 a xs[i])) (ds[i]'(by omega)) := by
  have e : xs.length - 2 - k = i := by omega
  simp only [newt, hl, e]
  rw [getD_of xs i 0 hi, getD_of ds i 0 (by omega)]
theorem newt_zero (xs ds : List Nat) (a m : Nat) (h : m < ds.length) (he : ds.length = m + 1) : newt xs ds a 0 = ds[m] := by
  have e : ds.length - 1 = m := by omega
  simp only [newt, e]; rw [getD_of ds m 0 h]

/-- spec.NewtonAt -/
theorem F_spec_NewtonAt_fn (s t : AV) (a : Nat) ( H : Heap) (xs : List Nat) (hxs : rd cF H s = some xs) (ds : List Nat) (hds : rd cF H t = some ds) : FnOk Try.prog 9 [s, t, .flt .f32 a] H (newtV xs ds a) (H) := by
  have hO : SoundO Try.prog (tab [(35, F_spec_l02Finite), (36, F_spec_l01Finite), (37, F_spec_l02Number)]) := (tab_cons F_spec_l02Finite_ok (tab_cons F_spec_l01Finite_ok (tab_cons F_spec_l02Number_ok (tab_nil _))))
  refine FnOk_of hO Try.func9 Try.call9 rfl fun hws hin => awp_ok hO _ _ _ _ ?_
  have hbxs := rd_bound hxs
  have hwxs := rd_within hxs
  have hLxs := fun L => rd_app hxs L
  have hnxs := rd_lenA hxs Try.underlying22
  have hnLxs := fun L => rd_lenA (hLxs L) Try.underlying22
  have hixs := fun i (hi : i < xs.length) => rd_idx hxs Try.underlying22 sz23 .i64 i hi
  have hiLxs := fun L i (hi : i < xs.length) => rd_idx (hLxs L) Try.underlying22 sz23 .i64 i hi
  have hgxs := fun i (hi : i < xs.length) => rd_ld hxs Try.underlying23 rfl i hi
  have hgLxs := fun L i (hi : i < xs.length) => rd_ld (hLxs L) Try.underlying23 rfl i hi
  simp only [cF_en, cI_en, cB_en, cD_en, cU8_en] at hgxs hgLxs
  have hwLxs := fun m => within_mono (Nat.le_add_right _ m) s hwxs
  have hbds := rd_bound hds
  have hwds := rd_within hds
  have hLds := fun L => rd_app hds L
  have hnds := rd_lenA hds Try.underlying22
  have hnLds := fun L => rd_lenA (hLds L) Try.underlying22
  have hids := fun i (hi : i < ds.length) => rd_idx hds Try.underlying22 sz23 .i64 i hi
  have hiLds := fun L i (hi : i < ds.length) => rd_idx (hLds L) Try.underlying22 sz23 .i64 i hi
  have hgds := fun i (hi : i < ds.length) => rd_ld hds Try.underlying23 rfl i hi
  have hgLds := fun L i (hi : i < ds.length) => rd_ld (hLds L) Try.underlying23 rfl i hi
  simp only [cF_en, cI_en, cB_en, cD_en, cU8_en] at hgds hgLds
  have hwLds := fun m => within_mono (Nat.le_add_right _ m) t hwds
  by_cases h1 : 1 ≤ xs.length
  rotate_left
  · have h1' : (xs.length : Int) < 1 := by omega
    have h1'' : ¬ 1 ≤ (xs.length : Int) := by omega
    have h1q : xs.length = 0 := by omega
    have hr : newtV xs ds a = .tup [.flt .f32 0, .bool false] := by simp [newtV, newtOk, h1]
    rw [hr]
    simp [Try.ntmps9, F_spec_l02Finite, F_spec_l01Finite, F_spec_l02Number, hwLxs, hxs, hLxs, hnxs, hnLxs, hixs, hiLxs, hgxs, hgLxs, hwxs, hwLds, hds, hLds, hnds, hnLds, hids, hiLds, hgds, hgLds, hwds, h1', h1'']
    exact ret_here hws (by simp) (by simp)
  
  by_cases h2 : xs.length ≤ 32
  rotate_left
  · have h2' : (32 : Int) < xs.length := by omega
    have h2'' : ¬ (xs.length : Int) ≤ 32 := by omega
    have h1i : ¬ (xs.length : Int) < 1 := by omega
    have h1j : 1 ≤ (xs.length : Int) := by omega
    have hr : newtV xs ds a = .tup [.flt .f32 0, .bool false] := by simp [newtV, newtOk, h2]
    rw [hr]
    simp [Try.ntmps9, F_spec_l02Finite, F_spec_l01Finite, F_spec_l02Number, hwLxs, hxs, hLxs, hnxs, hnLxs, hixs, hiLxs, hgxs, hgLxs, hwxs, hwLds, hds, hLds, hnds, hnLds, hids, hiLds, hgds, hgLds, hwds, h2', h2'', h1i, h1j]
    exact ret_here hws (by simp) (by simp)
  
  have h1i : ¬ (xs.length : Int) < 1 := by omega
  have h1j : 1 ≤ (xs.length : Int) := by omega
  have h2i : ¬ (32 : Int) < xs.length := by omega
  have h2j : (xs.length : Int) ≤ 32 := by omega
  by_cases h3 : ds.length = xs.length
  rotate_left
  · have h3i : ¬ (ds.length : Int) = xs.length := by omega
    have h3j : ¬ (xs.length : Int) = ds.length := by omega
    have h3k : ¬ xs.length = ds.length := by omega
    have hr : newtV xs ds a = .tup [.flt .f32 0, .bool false] := by simp [newtV, newtOk, h3]
    rw [hr]
    simp [Try.ntmps9, F_spec_l02Finite, F_spec_l01Finite, F_spec_l02Number, hwLxs, hxs, hLxs, hnxs, hnLxs, hixs, hiLxs, hgxs, hgLxs, hwxs, hwLds, hds, hLds, hnds, hnLds, hids, hiLds, hgds, hgLds, hwds, h3, h3i, h3j, h3k, h1i, h1j, h2i, h2j]
    exact ret_here hws (by simp) (by simp)
  
  have d1 : 1 ≤ (ds.length : Int) := by omega
  have d2 : (ds.length : Int) ≤ 32 := by omega
  cases h4 : xs.all sfin
  · have hr : newtV xs ds a = .tup [.flt .f32 0, .bool false] := by simp [newtV, newtOk, h3, h4, -List.all_eq_true, -List.all_eq_false]
    rw [hr]
    simp [Try.ntmps9, F_spec_l02Finite, F_spec_l01Finite, F_spec_l02Number, hwLxs, hxs, hLxs, hnxs, hnLxs, hixs, hiLxs, hgxs, hgLxs, hwxs, hwLds, hds, hLds, hnds, hnLds, hids, hiLds, hgds, hgLds, hwds, h1i, h1j, h2i, h2j, h3, h4, -List.all_eq_true, -List.all_eq_false]
    exact ret_here hws (by simp) (by simp)
  
  cases h5 : ds.all sfin
  · have hr : newtV xs ds a = .tup [.flt .f32 0, .bool false] := by simp [newtV, newtOk, h3, h4, h5, -List.all_eq_true, -List.all_eq_false]
    rw [hr]
    simp [Try.ntmps9, F_spec_l02Finite, F_spec_l01Finite, F_spec_l02Number, hwLxs, hxs, hLxs, hnxs, hnLxs, hixs, hiLxs, hgxs, hgLxs, hwxs, hwLds, hds, hLds, hnds, hnLds, hids, hiLds, hgds, hgLds, hwds, h1i, h1j, h2i, h2j, h3, h4, h5, d1, d2, -List.all_eq_true, -List.all_eq_false]
    exact ret_here hws (by simp) (by simp)
  
  cases h6 : sfin a
  · have hr : newtV xs ds a = .tup [.flt .f32 0, .bool false] := by simp [newtV, newtOk, h3, h4, h5, h6, -List.all_eq_true, -List.all_eq_false]
    rw [hr]
    simp [Try.ntmps9, F_spec_l02Finite, F_spec_l01Finite, F_spec_l02Number, hwLxs, hxs, hLxs, hnxs, hnLxs, hixs, hiLxs, hgxs, hgLxs, hwxs, hwLds, hds, hLds, hnds, hnLds, hids, hiLds, hgds, hgLds, hwds, h1i, h1j, h2i, h2j, h3, h4, h5, h6, d1, d2, -List.all_eq_true, -List.all_eq_false]
    exact ret_here hws (by simp) (by simp)
  
  have hok : newtOk xs ds a = true := by simp [newtOk, h1, h2, h3, h4, h5, h6, -List.all_eq_true]
  have hr : newtV xs ds a = .tup [.flt .f32 (if sfin (newt xs ds a (xs.length - 1)) = true then newt xs ds a (xs.length - 1) else 0), .bool (sfin (newt xs ds a (xs.length - 1)))] := by
    unfold newtV; rw [if_pos hok]
  rw [hr]
  obtain ⟨m, hm⟩ : ∃ m, xs.length = m + 1 := ⟨xs.length - 1, by omega⟩
  have w1 : IntKind.i64.wrap ((xs.length : Int) - 1) = (m : Int) := by rw [wrapI64 _ (by omega) (by omega)]; omega
  have w2 : IntKind.i64.wrap ((xs.length : Int) - 2) = (m : Int) - 1 := by rw [wrapI64 _ (by omega) (by omega)]; omega
  have hz := newt_zero xs ds a m (by omega) (by omega)
  have hmx : xs.length - 1 = m := by omega
  have hmd : m < xs.length := by omega
  rw [hmx]
  simp [Try.ntmps9, F_spec_l02Finite, F_spec_l01Finite, F_spec_l02Number, hwLxs, hxs, hLxs, hnxs, hnLxs, hixs, hiLxs, hgxs, hgLxs, hwxs, hwLds, hds, hLds, hnds, hnLds, hids, hiLds, hgds, hgLds, hwds, h1i, h1j, h2i, h2j, h3, h4, h5, h6, d1, d2, w1, w2, hmd, ← hz, -List.all_eq_true]
  
  refine TW_count hO m (fun k => [s, t, .flt .f32 a, .top, .top, .top, .flt .f32 0, .bool false, .top, .flt .f32 (newt xs ds a k), .int .i64 ((m : Int) - 1 - k), .top, .top, .top, .top, .top, .top, .top, .top, .top, .top, .top, .top, .top, .top, .top, .top, .top, .top, .top, .top, .top, .top, .top, .top, .top, .top, .top, .top, .top, .top, .top, .top, .top, .top, .top, .top, .top, .top, .top, .top, .top, .top, .top, .top, .top, .top, .top, .top, .top, .top, .top, .top, .top, .top, .top, .top, .top]) (fun _ => H) (fun _ => True) trivial ?_ ?_
  · refine Wk.here (by simp) hws ?_
    simp [Try.ntmps9, F_spec_l02Finite, F_spec_l01Finite, F_spec_l02Number, hwLxs, hxs, hLxs, hnxs, hnLxs, hixs, hiLxs, hgxs, hgLxs, hwxs, hwLds, hds, hLds, hnds, hnLds, hids, hiLds, hgds, hgLds, hwds]
  · intro k hk _
    by_cases hlt : k < m
    · obtain ⟨i, hi⟩ : ∃ i, i + 1 + k = m := ⟨m - 1 - k, by omega⟩
      have e1 : (m : Int) - 1 - k = (i : Int) := by omega
      have w3 : IntKind.i64.wrap ((i : Int) - 1) = (m : Int) - 1 - ((k : Int) + 1) := by rw [wrapI64 _ (by omega) (by omega)]; omega
      have hix : i < xs.length := by omega
      have hst := newt_step xs ds a k i h3 hix (by omega)
      simp [Try.ntmps9, F_spec_l02Finite, F_spec_l01Finite, F_spec_l02Number, hwLxs, hxs, hLxs, hnxs, hnLxs, hixs, hiLxs, hgxs, hgLxs, hwxs, hwLds, hds, hLds, hnds, hnLds, hids, hiLds, hgds, hgLds, hwds, e1, hlt]
      refine drawn_ok mixed hO [] (by kernel_rfl) ?_
      simp [heavy, Try.ntmps9, F_spec_l02Finite, F_spec_l01Finite, F_spec_l02Number, hwLxs, hxs, hLxs, hnxs, hnLxs, hixs, hiLxs, hgxs, hgLxs, hwxs, hwLds, hds, hLds, hnds, hnLds, hids, hiLds, hgds, hgLds, hwds, hix, h3, w3, hlt]
      refine Wk.here (by simp) hws ?_
      simp [Try.ntmps9, F_spec_l02Finite, F_spec_l01Finite, F_spec_l02Number, hwLxs, hxs, hLxs, hnxs, hnLxs, hixs, hiLxs, hgxs, hgLxs, hwxs, hwLds, hds, hLds, hnds, hnLds, hids, hiLds, hgds, hgLds, hwds, hst]
    · have hkm : k = m := by omega
      subst hkm
      have e1 : (k : Int) - 1 - k = -1 := by omega
      simp [Try.ntmps9, F_spec_l02Finite, F_spec_l01Finite, F_spec_l02Number, hwLxs, hxs, hLxs, hnxs, hnLxs, hixs, hiLxs, hgxs, hgLxs, hwxs, hwLds, hds, hLds, hnds, hnLds, hids, hiLds, hgds, hgLds, hwds, e1]
      exact ret_here hws (by simp) (by simp)
def F_spec_NewtonAt : List AV → Heap → Option (AV × Heap)
  | [s, t, .flt .f32 a], H => (rd cF H s).bind fun xs => (rd cF H t).bind fun ds => some (newtV xs ds a, H)
  | _, _ => none
theorem F_spec_NewtonAt_ok : FunOk Try.prog 9 F_spec_NewtonAt := by
  intro args H r H' h
  unfold F_spec_NewtonAt at h
  split at h
  · obtain ⟨xs, hxs, h⟩ := Option.bind_eq_some_iff.1 h
    obtain ⟨ds, hds, h⟩ := Option.bind_eq_some_iff.1 h
    simp only [Option.some.injEq, Prod.mk.injEq] at h
    obtain ⟨rfl, rfl⟩ := h
    exact F_spec_NewtonAt_fn _ _ _ _ _ hxs _ hds
  · cases h
/-- impl.NewtonAt -/
theorem F_impl_NewtonAt_fn (s t : AV) (a : Nat) ( H : Heap) (xs : List Nat) (hxs : rd cF H s = some xs) (ds : List Nat) (hds : rd cF H t = some ds) : FnOk Try.prog 11 [s, t, .flt .f32 a] H (newtV xs ds a) (H) := by
  have hO : SoundO Try.prog (tab [(38, F_impl_isList), (39, F_impl_IsFinite), (40, F_impl_mul), (41, F_impl_finite)]) := (tab_cons F_impl_isList_ok (tab_cons F_impl_IsFinite_ok (tab_cons F_impl_mul_ok (tab_cons F_impl_finite_ok (tab_nil _)))))
  refine FnOk_of hO Try.func11 Try.call11 rfl fun hws hin => awp_ok hO _ _ _ _ ?_
  have hbxs := rd_bound hxs
  have hwxs := rd_within hxs
  have hLxs := fun L => rd_app hxs L
  have hnxs := rd_lenA hxs Try.underlying22
  have hnLxs := fun L => rd_lenA (hLxs L) Try.underlying22
  have hixs := fun i (hi : i < xs.length) => rd_idx hxs Try.underlying22 sz23 .i64 i hi
  have hiLxs := fun L i (hi : i < xs.length) => rd_idx (hLxs L) Try.underlying22 sz23 .i64 i hi
  have hgxs := fun i (hi : i < xs.length) => rd_ld hxs Try.underlying23 rfl i hi
  have hgLxs := fun L i (hi : i < xs.length) => rd_ld (hLxs L) Try.underlying23 rfl i hi
  simp only [cF_en, cI_en, cB_en, cD_en, cU8_en] at hgxs hgLxs
  have hwLxs := fun m => within_mono (Nat.le_add_right _ m) s hwxs
  have hbds := rd_bound hds
  have hwds := rd_within hds
  have hLds := fun L => rd_app hds L
  have hnds := rd_lenA hds Try.underlying22
  have hnLds := fun L => rd_lenA (hLds L) Try.underlying22
  have hids := fun i (hi : i < ds.length) => rd_idx hds Try.underlying22 sz23 .i64 i hi
  have hiLds := fun L i (hi : i < ds.length) => rd_idx (hLds L) Try.underlying22 sz23 .i64 i hi
  have hgds := fun i (hi : i < ds.length) => rd_ld hds Try.underlying23 rfl i hi
  have hgLds := fun L i (hi : i < ds.length) => rd_ld (hLds L) Try.underlying23 rfl i hi
  simp only [cF_en, cI_en, cB_en, cD_en, cU8_en] at hgds hgLds
  have hwLds := fun m => within_mono (Nat.le_add_right _ m) t hwds
  by_cases h1 : 1 ≤ xs.length
  rotate_left
  · have h1' : (xs.length : Int) < 1 := by omega
    have h1'' : ¬ 1 ≤ (xs.length : Int) := by omega
    have h1q : xs.length = 0 := by omega
    have hr : newtV xs ds a = .tup [.flt .f32 0, .bool false] := by simp [newtV, newtOk, h1]
    rw [hr]
    simp [Try.ntmps11, F_impl_isList, F_impl_IsFinite, F_impl_mul, F_impl_finite, hwLxs, hxs, hLxs, hnxs, hnLxs, hixs, hiLxs, hgxs, hgLxs, hwxs, hwLds, hds, hLds, hnds, hnLds, hids, hiLds, hgds, hgLds, hwds, h1', h1'']
    exact ret_here hws (by simp) (by simp)
  
  by_cases h2 : xs.length ≤ 32
  rotate_left
  · have h2' : (32 : Int) < xs.length := by omega
    have h2'' : ¬ (xs.length : Int) ≤ 32 := by omega
    have h1i : ¬ (xs.length : Int) < 1 := by omega
    have h1j : 1 ≤ (xs.length : Int) := by omega
    have hr : newtV xs ds a = .tup [.flt .f32 0, .bool false] := by simp [newtV, newtOk, h2]
    rw [hr]
    simp [Try.ntmps11, F_impl_isList, F_impl_IsFinite, F_impl_mul, F_impl_finite, hwLxs, hxs, hLxs, hnxs, hnLxs, hixs, hiLxs, hgxs, hgLxs, hwxs, hwLds, hds, hLds, hnds, hnLds, hids, hiLds, hgds, hgLds, hwds, h2', h2'', h1i, h1j]
    exact ret_here hws (by simp) (by simp)
  
  have h1i : ¬ (xs.length : Int) < 1 := by omega
  have h1j : 1 ≤ (xs.length : Int) := by omega
  have h2i : ¬ (32 : Int) < xs.length := by omega
  have h2j : (xs.length : Int) ≤ 32 := by omega
  by_cases h3 : ds.length = xs.length
  rotate_left
  · have h3i : ¬ (ds.length : Int) = xs.length := by omega
    have h3j : ¬ (xs.length : Int) = ds.length := by omega
    have h3k : ¬ xs.length = ds.length := by omega
    by_cases d1 : 1 ≤ (ds.length : Int) <;> by_cases d2 : (ds.length : Int) ≤ 32 <;> cases h4 : xs.all sfin <;> cases h5 : ds.all sfin
    all_goals
      have hr : newtV xs ds a = .tup [.flt .f32 0, .bool false] := by simp [newtV, newtOk, h3]
      rw [hr]
      simp [Try.ntmps11, F_impl_isList, F_impl_IsFinite, F_impl_mul, F_impl_finite, hwLxs, hxs, hLxs, hnxs, hnLxs, hixs, hiLxs, hgxs, hgLxs, hwxs, hwLds, hds, hLds, hnds, hnLds, hids, hiLds, hgds, hgLds, hwds, h3, h3i, h3j, h3k, h1i, h1j, h2i, h2j, h4, h5, d1, d2, -List.all_eq_true, -List.all_eq_false]
      exact ret_here hws (by simp) (by simp)
    
  have d1 : 1 ≤ (ds.length : Int) := by omega
  have d2 : (ds.length : Int) ≤ 32 := by omega
  cases h4 : xs.all sfin
  · have hr : newtV xs ds a = .tup [.flt .f32 0, .bool false] := by simp [newtV, newtOk, h3, h4, -List.all_eq_true, -List.all_eq_false]
    rw [hr]
    simp [Try.ntmps11, F_impl_isList, F_impl_IsFinite, F_impl_mul, F_impl_finite, hwLxs, hxs, hLxs, hnxs, hnLxs, hixs, hiLxs, hgxs, hgLxs, hwxs, hwLds, hds, hLds, hnds, hnLds, hids, hiLds, hgds, hgLds, hwds, h1i, h1j, h2i, h2j, h3, h4, -List.all_eq_true, -List.all_eq_false]
    exact ret_here hws (by simp) (by simp)
  
  cases h5 : ds.all sfin
  · have hr : newtV xs ds a = .tup [.flt .f32 0, .bool false] := by simp [newtV, newtOk, h3, h4, h5, -List.all_eq_true, -List.all_eq_false]
    rw [hr]
    simp [Try.ntmps11, F_impl_isList, F_impl_IsFinite, F_impl_mul, F_impl_finite, hwLxs, hxs, hLxs, hnxs, hnLxs, hixs, hiLxs, hgxs, hgLxs, hwxs, hwLds, hds, hLds, hnds, hnLds, hids, hiLds, hgds, hgLds, hwds, h1i, h1j, h2i, h2j, h3, h4, h5, d1, d2, -List.all_eq_true, -List.all_eq_false]
    exact ret_here hws (by simp) (by simp)
  
  cases h6 : sfin a
  · have hr : newtV xs ds a = .tup [.flt .f32 0, .bool false] := by simp [newtV, newtOk, h3, h4, h5, h6, -List.all_eq_true, -List.all_eq_false]
    rw [hr]
    simp [Try.ntmps11, F_impl_isList, F_impl_IsFinite, F_impl_mul, F_impl_finite, hwLxs, hxs, hLxs, hnxs, hnLxs, hixs, hiLxs, hgxs, hgLxs, hwxs, hwLds, hds, hLds, hnds, hnLds, hids, hiLds, hgds, hgLds, hwds, h1i, h1j, h2i, h2j, h3, h4, h5, h6, d1, d2, -List.all_eq_true, -List.all_eq_false]
    exact ret_here hws (by simp) (by simp)
  
  have hok : newtOk xs ds a = true := by simp [newtOk, h1, h2, h3, h4, h5, h6, -List.all_eq_true]
  have hr : newtV xs ds a = .tup [.flt .f32 (if sfin (newt xs ds a (xs.length - 1)) = true then newt xs ds a (xs.length - 1) else 0), .bool (sfin (newt xs ds a (xs.length - 1)))] := by
    unfold newtV; rw [if_pos hok]
  rw [hr]
  obtain ⟨m, hm⟩ : ∃ m, xs.length = m + 1 := ⟨xs.length - 1, by omega⟩
  have w1 : IntKind.i64.wrap ((xs.length : Int) - 1) = (m : Int) := by rw [wrapI64 _ (by omega) (by omega)]; omega
  have w2 : IntKind.i64.wrap ((xs.length : Int) - 2) = (m : Int) - 1 := by rw [wrapI64 _ (by omega) (by omega)]; omega
  have hz := newt_zero xs ds a m (by omega) (by omega)
  have hmx : xs.length - 1 = m := by omega
  have hmd : m < xs.length := by omega
  rw [hmx]
  simp [Try.ntmps11, F_impl_isList, F_impl_IsFinite, F_impl_mul, F_impl_finite, hwLxs, hxs, hLxs, hnxs, hnLxs, hixs, hiLxs, hgxs, hgLxs, hwxs, hwLds, hds, hLds, hnds, hnLds, hids, hiLds, hgds, hgLds, hwds, h1i, h1j, h2i, h2j, h3, h4, h5, h6, d1, d2, w1, w2, hmd, ← hz, -List.all_eq_true]
  
  refine TW_count hO m (fun k => [s, t, .flt .f32 a, .top, .top, .top, .flt .f32 0, .bool false, .flt .f32 (newt xs ds a k), .int .i64 ((m : Int) - 1 - k), .top, .top, .top, .top, .top, .top, .top, .top, .top, .top, .top, .top, .top, .top, .top, .top, .top, .top, .top, .top, .top, .top, .top, .top, .top, .top, .top, .top, .top, .top, .top, .top, .top, .top, .top, .top, .top, .top, .top, .top, .top, .top, .top, .top, .top, .top, .top, .top, .top, .top]) (fun _ => H) (fun _ => True) trivial ?_ ?_
  · refine Wk.here (by simp) hws ?_
    simp [Try.ntmps11, F_impl_isList, F_impl_IsFinite, F_impl_mul, F_impl_finite, hwLxs, hxs, hLxs, hnxs, hnLxs, hixs, hiLxs, hgxs, hgLxs, hwxs, hwLds, hds, hLds, hnds, hnLds, hids, hiLds, hgds, hgLds, hwds]
  · intro k hk _
    by_cases hlt : k < m
    · obtain ⟨i, hi⟩ : ∃ i, i + 1 + k = m := ⟨m - 1 - k, by omega⟩
      have e1 : (m : Int) - 1 - k = (i : Int) := by omega
      have w3 : IntKind.i64.wrap ((i : Int) - 1) = (m : Int) - 1 - ((k : Int) + 1) := by rw [wrapI64 _ (by omega) (by omega)]; omega
      have hix : i < xs.length := by omega
      have hst := newt_step xs ds a k i h3 hix (by omega)
      simp [Try.ntmps11, F_impl_isList, F_impl_IsFinite, F_impl_mul, F_impl_finite, hwLxs, hxs, hLxs, hnxs, hnLxs, hixs, hiLxs, hgxs, hgLxs, hwxs, hwLds, hds, hLds, hnds, hnLds, hids, hiLds, hgds, hgLds, hwds, e1, hlt]
      refine drawn_ok mixed hO [(7, 8), (7, 9), (7, 10), (7, 11)] (by kernel_rfl) ?_
      simp [heavy, Try.ntmps11, F_impl_isList, F_impl_IsFinite, F_impl_mul, F_impl_finite, hwLxs, hxs, hLxs, hnxs, hnLxs, hixs, hiLxs, hgxs, hgLxs, hwxs, hwLds, hds, hLds, hnds, hnLds, hids, hiLds, hgds, hgLds, hwds, hix, h3, w3, hlt]
      refine Wk.here (by simp) hws ?_
      simp [Try.ntmps11, F_impl_isList, F_impl_IsFinite, F_impl_mul, F_impl_finite, hwLxs, hxs, hLxs, hnxs, hnLxs, hixs, hiLxs, hgxs, hgLxs, hwxs, hwLds, hds, hLds, hnds, hnLds, hids, hiLds, hgds, hgLds, hwds, hst]
    · have hkm : k = m := by omega
      subst hkm
      have e1 : (k : Int) - 1 - k = -1 := by omega
      simp [Try.ntmps11, F_impl_isList, F_impl_IsFinite, F_impl_mul, F_impl_finite, hwLxs, hxs, hLxs, hnxs, hnLxs, hixs, hiLxs, hgxs, hgLxs, hwxs, hwLds, hds, hLds, hnds, hnLds, hids, hiLds, hgds, hgLds, hwds, e1]
      exact ret_here hws (by simp) (by simp)
def F_impl_NewtonAt : List AV → Heap → Option (AV × Heap)
  | [s, t, .flt .f32 a], H => (rd cF H s).bind fun xs => (rd cF H t).bind fun ds => some (newtV xs ds a, H)
  | _, _ => none
theorem F_impl_NewtonAt_ok : FunOk Try.prog 11 F_impl_NewtonAt := by
  intro args H r H' h
  unfold F_impl_NewtonAt at h
  split at h
  · obtain ⟨xs, hxs, h⟩ := Option.bind_eq_some_iff.1 h
    obtain ⟨ds, hds, h⟩ := Option.bind_eq_some_iff.1 h
    simp only [Option.some.injEq, Prod.mk.injEq] at h
    obtain ⟨rfl, rfl⟩ := h
    exact F_impl_NewtonAt_fn _ _ _ _ _ hxs _ hds
  · cases h
end Go.Proofs.Ytbhmllcnfdndhaa.AM
