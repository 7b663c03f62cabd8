/- Contracts: P4. -/
import Derived.Test.YtbhmllcnfdndhaaP3
namespace Go.Proofs.Ytbhmllcnfdndhaa.AM
open Go.Proofs
set_option maxRecDepth 100000
set_option maxHeartbeats 4000000
set_option linter.unusedSimpArgs false
set_option linter.unusedVariables false

def newtF (xs ds : List Nat) (a : Nat) : Nat := if newtOk xs ds a = true then (if sfin (newt xs ds a (xs.length - 1)) = true then newt xs ds a (xs.length - 1) else 0) else 0
def newtB (xs ds : List Nat) (a : Nat) : Bool := newtOk xs ds a && sfin (newt xs ds a (xs.length - 1))
theorem newtV_eq (xs ds : List Nat) (a : Nat) : newtV xs ds a = .tup [.flt .f32 (newtF xs ds a), .bool (newtB xs ds a)] := by
  unfold newtV newtF newtB
  cases newtOk xs ds a <;> rfl

/-- laws.FnExactNewtonAt -/
theorem F_laws_FnExactNewtonAt_fn (s t : AV) (a : Nat) ( H : Heap) (xs : List Nat) (hxs : rd cF H s = some xs) (ds : List Nat) (hds : rd cF H t = some ds) : FnOk Try.prog 3 [s, t, .flt .f32 a] H (.bool true) (H) := by
  have hO : SoundO Try.prog (tab [(10, F_laws_toFloat32S), (9, F_spec_NewtonAt), (11, F_impl_NewtonAt), (12, F_laws_sameFloat), (13, F_laws_eqFloat32S)]) := (tab_cons F_laws_toFloat32S_ok (tab_cons F_spec_NewtonAt_ok (tab_cons F_impl_NewtonAt_ok (tab_cons F_laws_sameFloat_ok (tab_cons F_laws_eqFloat32S_ok (tab_nil _))))))
  refine FnOk_of hO Try.func3 Try.call3 rfl fun hws hin => awp_ok hO _ _ _ _ ?_
  have hbxs := rd_bound hxs
  have hwxs := rd_within hxs
  have hLxs := fun L => rd_app hxs L
  have hnxs := rd_lenA hxs Try.underlying22
  have hnLxs := fun L => rd_lenA (hLxs L) Try.underlying22
  have hixs := fun i (hi : i < xs.length) => rd_idx hxs Try.underlying22 sz23 .i64 i hi
  have hiLxs := fun L i (hi : i < xs.length) => rd_idx (hLxs L) Try.underlying22 sz23 .i64 i hi
  have hgxs := fun i (hi : i < xs.length) => rd_ld hxs Try.underlying23 rfl i hi
  have hgLxs := fun L i (hi : i < xs.length) => rd_ld (hLxs L) Try.underlying23 rfl i hi
  simp only [cF_en, cI_en, cB_en, cD_en, cU8_en] at hgxs hgLxs
  have hwLxs := fun m => within_mono (Nat.le_add_right _ m) s hwxs
  have hbds := rd_bound hds
  have hwds := rd_within hds
  have hLds := fun L => rd_app hds L
  have hnds := rd_lenA hds Try.underlying22
  have hnLds := fun L => rd_lenA (hLds L) Try.underlying22
  have hids := fun i (hi : i < ds.length) => rd_idx hds Try.underlying22 sz23 .i64 i hi
  have hiLds := fun L i (hi : i < ds.length) => rd_idx (hLds L) Try.underlying22 sz23 .i64 i hi
  have hgds := fun i (hi : i < ds.length) => rd_ld hds Try.underlying23 rfl i hi
  have hgLds := fun L i (hi : i < ds.length) => rd_ld (hLds L) Try.underlying23 rfl i hi
  simp only [cF_en, cI_en, cB_en, cD_en, cU8_en] at hgds hgLds
  have hwLds := fun m => within_mono (Nat.le_add_right _ m) t hwds
  by_cases h1 : (1048576 : Int) < xs.length
  · simp [Try.ntmps3, F_laws_toFloat32S, F_spec_NewtonAt, F_impl_NewtonAt, F_laws_sameFloat, F_laws_eqFloat32S, hwLxs, hxs, hLxs, hnxs, hnLxs, hixs, hiLxs, hgxs, hgLxs, hwxs, hwLds, hds, hLds, hnds, hnLds, hids, hiLds, hgds, hgLds, hwds, h1]
    exact ret_here hws (by simp) (by simp)
  by_cases h2 : (1048576 : Int) < ds.length
  · simp [Try.ntmps3, F_laws_toFloat32S, F_spec_NewtonAt, F_impl_NewtonAt, F_laws_sameFloat, F_laws_eqFloat32S, hwLxs, hxs, hLxs, hnxs, hnLxs, hixs, hiLxs, hgxs, hgLxs, hwxs, hwLds, hds, hLds, hnds, hnLds, hids, hiLds, hgds, hgLds, hwds, h1, h2]
    exact ret_here hws (by simp) (by simp)
  simp [Try.ntmps3, F_laws_toFloat32S, F_spec_NewtonAt, F_impl_NewtonAt, F_laws_sameFloat, F_laws_eqFloat32S, hwLxs, hxs, hLxs, hnxs, hnLxs, hixs, hiLxs, hgxs, hgLxs, hwxs, hwLds, hds, hLds, hnds, hnLds, hids, hiLds, hgds, hgLds, hwds, h1, h2, hbxs, hbds, newtV_eq, fconv_wid]
  exact ret_same hws (by simp) (by simp)
def F_laws_FnExactNewtonAt : List AV → Heap → Option (AV × Heap)
  | [s, t, .flt .f32 a], H => (rd cF H s).bind fun xs => (rd cF H t).bind fun ds => some (.bool true, H)
  | _, _ => none
theorem F_laws_FnExactNewtonAt_ok : FunOk Try.prog 3 F_laws_FnExactNewtonAt := by
  intro args H r H' h
  unfold F_laws_FnExactNewtonAt at h
  split at h
  · obtain ⟨xs, hxs, h⟩ := Option.bind_eq_some_iff.1 h
    obtain ⟨ds, hds, h⟩ := Option.bind_eq_some_iff.1 h
    simp only [Option.some.injEq, Prod.mk.injEq] at h
    obtain ⟨rfl, rfl⟩ := h
    exact F_laws_FnExactNewtonAt_fn _ _ _ _ _ hxs _ hds
  · cases h
end Go.Proofs.Ytbhmllcnfdndhaa.AM
