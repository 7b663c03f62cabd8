/- Contracts: Q1. -/
import Derived.Test.YtbhmllcnfdndhaaP5
namespace Go.Proofs.Ytbhmllcnfdndhaa.AM
open Go.Proofs
set_option maxRecDepth 100000
set_option maxHeartbeats 4000000
set_option linter.unusedSimpArgs false
set_option linter.unusedVariables false

def thirdsOk (l m u : List Nat) : Bool := decide (1 ≤ (m.length : Int)) && (decide ((m.length : Int) ≤ 32) && (decide ((l.length : Int) = m.length) && (decide ((u.length : Int) = m.length) && (l.all sfin && (m.all sfin && (u.all sfin && (feq .f32 (nth l 0) 0 && feq .f32 (nth u (m.length - 1)) 0)))))))


def szF (k : Nat) (n : Int) : Int := if n - k < 0 then -1 else n - k
def szThirds (a b c : Nat) (n : Int) : Int := if szF a n < 0 then -1 else if szF b (szF a n) < 0 then -1 else if szF c (szF b (szF a n)) < 0 then -1 else szF c (szF b (szF a n))
theorem szF_le (k : Nat) (n : Int) (h : n ≤ 1048576) : szF k n ≤ 1048576 := by unfold szF; split <;> omega
theorem szF_fit (k : Nat) (n : Int) (h : ¬ szF k n < 0) : (k : Int) ≤ n := by unfold szF at h; split at h <;> omega

/-- laws.szFloat32S -/
theorem F_laws_szFloat32S_fn (s : AV) (n : Int) ( H : Heap) (k : Nat) (hk : slen H s = some k) (hc : 0 ≤ n ∧ n ≤ 1048576) : FnOk Try.prog 42 [s, .int .i64 n] H (.int .i64 (szF k n)) (H) := by
  have hO : SoundO Try.prog (tab []) := (tab_nil _)
  refine FnOk_of hO Try.func42 Try.call42 rfl fun hws hin => awp_ok hO _ _ _ _ ?_
  have hbk := slen_lt hk
  have hwk := slen_within hk
  have hLk := fun L => slen_app hk L
  have hnk := slen_lenA hk Try.underlying22
  have hnLk := fun L => slen_lenA (hLk L) Try.underlying22
  have hkk := slen_cellOk hk
  have hkLk := fun L => slen_cellOk (hLk L)
  have hw := wrapI64 (n - k) (by omega) (by omega)
  simp [-List.all_eq_true, -List.all_eq_false, Try.ntmps42, hk, hLk, hnk, hnLk, hkk, hkLk, hwk, hw, newA, ldN, stN, putAt, Nat.add_assoc]
  repeat' first
    | (refine goR_dec _ (fun hq => ?_) (fun hq => ?_) <;> (have hp := hq) <;> (try simp [-List.all_eq_true, -List.all_eq_false] at hp) <;> simp [-List.all_eq_true, -List.all_eq_false, Try.ntmps42, hk, hLk, hnk, hnLk, hkk, hkLk, hwk, hw, newA, ldN, stN, putAt, Nat.add_assoc, hq, *])
    | (refine goR_ndec _ (fun hq => ?_) (fun hq => ?_) <;> (have hp := hq) <;> (try simp [-List.all_eq_true, -List.all_eq_false] at hp) <;> simp [-List.all_eq_true, -List.all_eq_false, Try.ntmps42, hk, hLk, hnk, hnLk, hkk, hkLk, hwk, hw, newA, ldN, stN, putAt, Nat.add_assoc, hq, *])
    | (refine goR_not _ (fun hq => ?_) (fun hq => ?_) <;> (have hp := hq) <;> (try simp [-List.all_eq_true, -List.all_eq_false] at hp) <;> simp [-List.all_eq_true, -List.all_eq_false, Try.ntmps42, hk, hLk, hnk, hnLk, hkk, hkLk, hwk, hw, newA, ldN, stN, putAt, Nat.add_assoc, hq, *])
    | (refine goR_want _ (fun hq => ?_) (fun hq => ?_) <;> (have hp := hq) <;> (try simp [-List.all_eq_true, -List.all_eq_false] at hp) <;> simp [-List.all_eq_true, -List.all_eq_false, Try.ntmps42, hk, hLk, hnk, hnLk, hkk, hkLk, hwk, hw, newA, ldN, stN, putAt, Nat.add_assoc, hq, *])
    | (refine condQ_dec _ (fun hq => ?_) (fun hq => ?_) <;> (have hp := hq) <;> (try simp [-List.all_eq_true, -List.all_eq_false] at hp) <;> simp [-List.all_eq_true, -List.all_eq_false, Try.ntmps42, hk, hLk, hnk, hnLk, hkk, hkLk, hwk, hw, newA, ldN, stN, putAt, Nat.add_assoc, hq, *])
    | (refine condQ_ndec _ (fun hq => ?_) (fun hq => ?_) <;> (have hp := hq) <;> (try simp [-List.all_eq_true, -List.all_eq_false] at hp) <;> simp [-List.all_eq_true, -List.all_eq_false, Try.ntmps42, hk, hLk, hnk, hnLk, hkk, hkLk, hwk, hw, newA, ldN, stN, putAt, Nat.add_assoc, hq, *])
    | (refine condQ_not _ (fun hq => ?_) (fun hq => ?_) <;> (have hp := hq) <;> (try simp [-List.all_eq_true, -List.all_eq_false] at hp) <;> simp [-List.all_eq_true, -List.all_eq_false, Try.ntmps42, hk, hLk, hnk, hnLk, hkk, hkLk, hwk, hw, newA, ldN, stN, putAt, Nat.add_assoc, hq, *])
    | (refine condQ_bool _ (fun hq => ?_) (fun hq => ?_) <;> (have hp := hq) <;> (try simp [-List.all_eq_true, -List.all_eq_false] at hp) <;> simp [-List.all_eq_true, -List.all_eq_false, Try.ntmps42, hk, hLk, hnk, hnLk, hkk, hkLk, hwk, hw, newA, ldN, stN, putAt, Nat.add_assoc, hq, *])
    | simp (disch := omega) [-List.all_eq_true, -List.all_eq_false, Try.ntmps42, hk, hLk, hnk, hnLk, hkk, hkLk, hwk, hw, newA, ldN, stN, putAt, Nat.add_assoc, *]
  all_goals first | exact ret_here hws (by first | (simp [-List.all_eq_true, -List.all_eq_false, szF, resA, resA1, newA, ldN, stN, *]; done) | (simp [-List.all_eq_true, -List.all_eq_false, szF, resA, resA1, newA, ldN, stN, *] <;> omega) | (simp [-List.all_eq_true, -List.all_eq_false, szF, resA, resA1, newA, ldN, stN, *] <;> intros <;> simp_all [-List.all_eq_true, -List.all_eq_false])) (by first | (simp [-List.all_eq_true, -List.all_eq_false, szF, resA, resA1, newA, ldN, stN, *]; done) | (simp [-List.all_eq_true, -List.all_eq_false, szF, resA, resA1, newA, ldN, stN, *] <;> omega) | (simp [-List.all_eq_true, -List.all_eq_false, szF, resA, resA1, newA, ldN, stN, *] <;> intros <;> simp_all [-List.all_eq_true, -List.all_eq_false])) | exact ret_same hws (by first | (simp [-List.all_eq_true, -List.all_eq_false, szF, resA, resA1, newA, ldN, stN, *]; done) | (simp [-List.all_eq_true, -List.all_eq_false, szF, resA, resA1, newA, ldN, stN, *] <;> omega) | (simp [-List.all_eq_true, -List.all_eq_false, szF, resA, resA1, newA, ldN, stN, *] <;> intros <;> simp_all [-List.all_eq_true, -List.all_eq_false])) (by first | (simp [-List.all_eq_true, -List.all_eq_false, szF, resA, resA1, newA, ldN, stN, *]; done) | (simp [-List.all_eq_true, -List.all_eq_false, szF, resA, resA1, newA, ldN, stN, *] <;> omega) | (simp [-List.all_eq_true, -List.all_eq_false, szF, resA, resA1, newA, ldN, stN, *] <;> intros <;> simp_all [-List.all_eq_true, -List.all_eq_false]))
def F_laws_szFloat32S : List AV → Heap → Option (AV × Heap)
  | [s, .int .i64 n], H => (slen H s).bind fun k => if 0 ≤ n ∧ n ≤ 1048576 then some (.int .i64 (szF k n), H) else none
  | _, _ => none
theorem F_laws_szFloat32S_ok : FunOk Try.prog 42 F_laws_szFloat32S := by
  intro args H r H' h
  unfold F_laws_szFloat32S at h
  split at h
  · obtain ⟨k, hk, h⟩ := Option.bind_eq_some_iff.1 h
    split at h
    · rename_i hc
      simp only [Option.some.injEq, Prod.mk.injEq] at h
      obtain ⟨rfl, rfl⟩ := h
      exact F_laws_szFloat32S_fn _ _ _ _ hk hc
    · cases h
  · cases h
/-- impl.ValidThirds -/
theorem F_impl_ValidThirds_fn (a b c : AV) ( H : Heap) (l : List Nat) (hl : rd cF H a = some l) (m : List Nat) (hm : rd cF H b = some m) (u : List Nat) (hu : rd cF H c = some u) : FnOk Try.prog 17 [.agg [a, b, c]] H (.bool (thirdsOk l m u)) (H) := by
  have hO : SoundO Try.prog (tab [(38, F_impl_isList), (44, F_impl_areFinite)]) := (tab_cons F_impl_isList_ok (tab_cons F_impl_areFinite_ok (tab_nil _)))
  refine FnOk_of hO Try.func17 Try.call17 rfl fun hws hin => awp_ok hO _ _ _ _ ?_
  have hbl := rd_bound hl
  have hwl := rd_within hl
  have hLl := fun L => rd_app hl L
  have hnl := rd_lenA hl Try.underlying22
  have hnLl := fun L => rd_lenA (hLl L) Try.underlying22
  have hil := fun i (hi : i < l.length) => rd_idx hl Try.underlying22 sz23 .i64 i hi
  have hiLl := fun L i (hi : i < l.length) => rd_idx (hLl L) Try.underlying22 sz23 .i64 i hi
  have hgl := fun i (hi : i < l.length) => rd_ldD hl Try.underlying23 rfl i hi
  have hgLl := fun L i (hi : i < l.length) => rd_ldD (hLl L) Try.underlying23 rfl i hi
  have hzl : 0 < l.length → indexAddrA Try.prog H 22 a (.int .i64 0) = some (AV.plc a 0) := fun h => hil 0 h
  have hzLl : ∀ L, 0 < l.length → indexAddrA Try.prog (H ++ L) 22 a (.int .i64 0) = some (AV.plc a 0) := fun L h => hiLl L 0 h
  have hkl := rd_cellOk hl
  have hkLl := fun L => rd_cellOk (hLl L)
  simp only [cF_en, cI_en, cB_en, cD_en, cU8_en] at hgl hgLl
  have hwLl := fun m => within_mono (Nat.le_add_right _ m) a hwl
  have hbm := rd_bound hm
  have hwm := rd_within hm
  have hLm := fun L => rd_app hm L
  have hnm := rd_lenA hm Try.underlying22
  have hnLm := fun L => rd_lenA (hLm L) Try.underlying22
  have him := fun i (hi : i < m.length) => rd_idx hm Try.underlying22 sz23 .i64 i hi
  have hiLm := fun L i (hi : i < m.length) => rd_idx (hLm L) Try.underlying22 sz23 .i64 i hi
  have hgm := fun i (hi : i < m.length) => rd_ldD hm Try.underlying23 rfl i hi
  have hgLm := fun L i (hi : i < m.length) => rd_ldD (hLm L) Try.underlying23 rfl i hi
  have hzm : 0 < m.length → indexAddrA Try.prog H 22 b (.int .i64 0) = some (AV.plc b 0) := fun h => him 0 h
  have hzLm : ∀ L, 0 < m.length → indexAddrA Try.prog (H ++ L) 22 b (.int .i64 0) = some (AV.plc b 0) := fun L h => hiLm L 0 h
  have hkm := rd_cellOk hm
  have hkLm := fun L => rd_cellOk (hLm L)
  simp only [cF_en, cI_en, cB_en, cD_en, cU8_en] at hgm hgLm
  have hwLm := fun m => within_mono (Nat.le_add_right _ m) b hwm
  have hbu := rd_bound hu
  have hwu := rd_within hu
  have hLu := fun L => rd_app hu L
  have hnu := rd_lenA hu Try.underlying22
  have hnLu := fun L => rd_lenA (hLu L) Try.underlying22
  have hiu := fun i (hi : i < u.length) => rd_idx hu Try.underlying22 sz23 .i64 i hi
  have hiLu := fun L i (hi : i < u.length) => rd_idx (hLu L) Try.underlying22 sz23 .i64 i hi
  have hgu := fun i (hi : i < u.length) => rd_ldD hu Try.underlying23 rfl i hi
  have hgLu := fun L i (hi : i < u.length) => rd_ldD (hLu L) Try.underlying23 rfl i hi
  have hzu : 0 < u.length → indexAddrA Try.prog H 22 c (.int .i64 0) = some (AV.plc c 0) := fun h => hiu 0 h
  have hzLu : ∀ L, 0 < u.length → indexAddrA Try.prog (H ++ L) 22 c (.int .i64 0) = some (AV.plc c 0) := fun L h => hiLu L 0 h
  have hku := rd_cellOk hu
  have hkLu := fun L => rd_cellOk (hLu L)
  simp only [cF_en, cI_en, cB_en, cD_en, cU8_en] at hgu hgLu
  have hwLu := fun m => within_mono (Nat.le_add_right _ m) c hwu
  have hw1 := wrap_sub1 m.length
  simp [-List.all_eq_true, -List.all_eq_false, Try.ntmps17, F_impl_isList, F_impl_areFinite, hzl, hzLl, hkl, hkLl, hwLl, hl, hLl, hnl, hnLl, hil, hiLl, hgl, hgLl, hwl, hzm, hzLm, hkm, hkLm, hwLm, hm, hLm, hnm, hnLm, him, hiLm, hgm, hgLm, hwm, hzu, hzLu, hku, hkLu, hwLu, hu, hLu, hnu, hnLu, hiu, hiLu, hgu, hgLu, hwu, hw1, newA, ldN, stN, putAt, Nat.add_assoc]
  repeat' first
    | (refine goR_dec _ (fun hq => ?_) (fun hq => ?_) <;> (have hp := hq) <;> (try simp [-List.all_eq_true, -List.all_eq_false] at hp) <;> simp [-List.all_eq_true, -List.all_eq_false, Try.ntmps17, F_impl_isList, F_impl_areFinite, hzl, hzLl, hkl, hkLl, hwLl, hl, hLl, hnl, hnLl, hil, hiLl, hgl, hgLl, hwl, hzm, hzLm, hkm, hkLm, hwLm, hm, hLm, hnm, hnLm, him, hiLm, hgm, hgLm, hwm, hzu, hzLu, hku, hkLu, hwLu, hu, hLu, hnu, hnLu, hiu, hiLu, hgu, hgLu, hwu, hw1, newA, ldN, stN, putAt, Nat.add_assoc, hq, *])
    | (refine goR_ndec _ (fun hq => ?_) (fun hq => ?_) <;> (have hp := hq) <;> (try simp [-List.all_eq_true, -List.all_eq_false] at hp) <;> simp [-List.all_eq_true, -List.all_eq_false, Try.ntmps17, F_impl_isList, F_impl_areFinite, hzl, hzLl, hkl, hkLl, hwLl, hl, hLl, hnl, hnLl, hil, hiLl, hgl, hgLl, hwl, hzm, hzLm, hkm, hkLm, hwLm, hm, hLm, hnm, hnLm, him, hiLm, hgm, hgLm, hwm, hzu, hzLu, hku, hkLu, hwLu, hu, hLu, hnu, hnLu, hiu, hiLu, hgu, hgLu, hwu, hw1, newA, ldN, stN, putAt, Nat.add_assoc, hq, *])
    | (refine goR_not _ (fun hq => ?_) (fun hq => ?_) <;> (have hp := hq) <;> (try simp [-List.all_eq_true, -List.all_eq_false] at hp) <;> simp [-List.all_eq_true, -List.all_eq_false, Try.ntmps17, F_impl_isList, F_impl_areFinite, hzl, hzLl, hkl, hkLl, hwLl, hl, hLl, hnl, hnLl, hil, hiLl, hgl, hgLl, hwl, hzm, hzLm, hkm, hkLm, hwLm, hm, hLm, hnm, hnLm, him, hiLm, hgm, hgLm, hwm, hzu, hzLu, hku, hkLu, hwLu, hu, hLu, hnu, hnLu, hiu, hiLu, hgu, hgLu, hwu, hw1, newA, ldN, stN, putAt, Nat.add_assoc, hq, *])
    | (refine goR_want _ (fun hq => ?_) (fun hq => ?_) <;> (have hp := hq) <;> (try simp [-List.all_eq_true, -List.all_eq_false] at hp) <;> simp [-List.all_eq_true, -List.all_eq_false, Try.ntmps17, F_impl_isList, F_impl_areFinite, hzl, hzLl, hkl, hkLl, hwLl, hl, hLl, hnl, hnLl, hil, hiLl, hgl, hgLl, hwl, hzm, hzLm, hkm, hkLm, hwLm, hm, hLm, hnm, hnLm, him, hiLm, hgm, hgLm, hwm, hzu, hzLu, hku, hkLu, hwLu, hu, hLu, hnu, hnLu, hiu, hiLu, hgu, hgLu, hwu, hw1, newA, ldN, stN, putAt, Nat.add_assoc, hq, *])
    | (refine condQ_dec _ (fun hq => ?_) (fun hq => ?_) <;> (have hp := hq) <;> (try simp [-List.all_eq_true, -List.all_eq_false] at hp) <;> simp [-List.all_eq_true, -List.all_eq_false, Try.ntmps17, F_impl_isList, F_impl_areFinite, hzl, hzLl, hkl, hkLl, hwLl, hl, hLl, hnl, hnLl, hil, hiLl, hgl, hgLl, hwl, hzm, hzLm, hkm, hkLm, hwLm, hm, hLm, hnm, hnLm, him, hiLm, hgm, hgLm, hwm, hzu, hzLu, hku, hkLu, hwLu, hu, hLu, hnu, hnLu, hiu, hiLu, hgu, hgLu, hwu, hw1, newA, ldN, stN, putAt, Nat.add_assoc, hq, *])
    | (refine condQ_ndec _ (fun hq => ?_) (fun hq => ?_) <;> (have hp := hq) <;> (try simp [-List.all_eq_true, -List.all_eq_false] at hp) <;> simp [-List.all_eq_true, -List.all_eq_false, Try.ntmps17, F_impl_isList, F_impl_areFinite, hzl, hzLl, hkl, hkLl, hwLl, hl, hLl, hnl, hnLl, hil, hiLl, hgl, hgLl, hwl, hzm, hzLm, hkm, hkLm, hwLm, hm, hLm, hnm, hnLm, him, hiLm, hgm, hgLm, hwm, hzu, hzLu, hku, hkLu, hwLu, hu, hLu, hnu, hnLu, hiu, hiLu, hgu, hgLu, hwu, hw1, newA, ldN, stN, putAt, Nat.add_assoc, hq, *])
    | (refine condQ_not _ (fun hq => ?_) (fun hq => ?_) <;> (have hp := hq) <;> (try simp [-List.all_eq_true, -List.all_eq_false] at hp) <;> simp [-List.all_eq_true, -List.all_eq_false, Try.ntmps17, F_impl_isList, F_impl_areFinite, hzl, hzLl, hkl, hkLl, hwLl, hl, hLl, hnl, hnLl, hil, hiLl, hgl, hgLl, hwl, hzm, hzLm, hkm, hkLm, hwLm, hm, hLm, hnm, hnLm, him, hiLm, hgm, hgLm, hwm, hzu, hzLu, hku, hkLu, hwLu, hu, hLu, hnu, hnLu, hiu, hiLu, hgu, hgLu, hwu, hw1, newA, ldN, stN, putAt, Nat.add_assoc, hq, *])
    | (refine condQ_bool _ (fun hq => ?_) (fun hq => ?_) <;> (have hp := hq) <;> (try simp [-List.all_eq_true, -List.all_eq_false] at hp) <;> simp [-List.all_eq_true, -List.all_eq_false, Try.ntmps17, F_impl_isList, F_impl_areFinite, hzl, hzLl, hkl, hkLl, hwLl, hl, hLl, hnl, hnLl, hil, hiLl, hgl, hgLl, hwl, hzm, hzLm, hkm, hkLm, hwLm, hm, hLm, hnm, hnLm, him, hiLm, hgm, hgLm, hwm, hzu, hzLu, hku, hkLu, hwLu, hu, hLu, hnu, hnLu, hiu, hiLu, hgu, hgLu, hwu, hw1, newA, ldN, stN, putAt, Nat.add_assoc, hq, *])
    | simp (disch := omega) [-List.all_eq_true, -List.all_eq_false, Try.ntmps17, F_impl_isList, F_impl_areFinite, hzl, hzLl, hkl, hkLl, hwLl, hl, hLl, hnl, hnLl, hil, hiLl, hgl, hgLl, hwl, hzm, hzLm, hkm, hkLm, hwLm, hm, hLm, hnm, hnLm, him, hiLm, hgm, hgLm, hwm, hzu, hzLu, hku, hkLu, hwLu, hu, hLu, hnu, hnLu, hiu, hiLu, hgu, hgLu, hwu, hw1, newA, ldN, stN, putAt, Nat.add_assoc, *]
  all_goals first | exact ret_here hws (by first | (simp [-List.all_eq_true, -List.all_eq_false, thirdsOk, resA, resA1, newA, ldN, stN, *]; done) | (simp [-List.all_eq_true, -List.all_eq_false, thirdsOk, resA, resA1, newA, ldN, stN, *] <;> omega) | (simp [-List.all_eq_true, -List.all_eq_false, thirdsOk, resA, resA1, newA, ldN, stN, *] <;> intros <;> simp_all [-List.all_eq_true, -List.all_eq_false])) (by first | (simp [-List.all_eq_true, -List.all_eq_false, thirdsOk, resA, resA1, newA, ldN, stN, *]; done) | (simp [-List.all_eq_true, -List.all_eq_false, thirdsOk, resA, resA1, newA, ldN, stN, *] <;> omega) | (simp [-List.all_eq_true, -List.all_eq_false, thirdsOk, resA, resA1, newA, ldN, stN, *] <;> intros <;> simp_all [-List.all_eq_true, -List.all_eq_false])) | exact ret_same hws (by first | (simp [-List.all_eq_true, -List.all_eq_false, thirdsOk, resA, resA1, newA, ldN, stN, *]; done) | (simp [-List.all_eq_true, -List.all_eq_false, thirdsOk, resA, resA1, newA, ldN, stN, *] <;> omega) | (simp [-List.all_eq_true, -List.all_eq_false, thirdsOk, resA, resA1, newA, ldN, stN, *] <;> intros <;> simp_all [-List.all_eq_true, -List.all_eq_false])) (by first | (simp [-List.all_eq_true, -List.all_eq_false, thirdsOk, resA, resA1, newA, ldN, stN, *]; done) | (simp [-List.all_eq_true, -List.all_eq_false, thirdsOk, resA, resA1, newA, ldN, stN, *] <;> omega) | (simp [-List.all_eq_true, -List.all_eq_false, thirdsOk, resA, resA1, newA, ldN, stN, *] <;> intros <;> simp_all [-List.all_eq_true, -List.all_eq_false]))
def F_impl_ValidThirds : List AV → Heap → Option (AV × Heap)
  | [.agg [a, b, c]], H => (rd cF H a).bind fun l => (rd cF H b).bind fun m => (rd cF H c).bind fun u => some (.bool (thirdsOk l m u), H)
  | _, _ => none
theorem F_impl_ValidThirds_ok : FunOk Try.prog 17 F_impl_ValidThirds := by
  intro args H r H' h
  unfold F_impl_ValidThirds at h
  split at h
  · obtain ⟨l, hl, h⟩ := Option.bind_eq_some_iff.1 h
    obtain ⟨m, hm, h⟩ := Option.bind_eq_some_iff.1 h
    obtain ⟨u, hu, h⟩ := Option.bind_eq_some_iff.1 h
    simp only [Option.some.injEq, Prod.mk.injEq] at h
    obtain ⟨rfl, rfl⟩ := h
    exact F_impl_ValidThirds_fn _ _ _ _ _ hl _ hm _ hu
  · cases h
/-- spec.l07Thirds -/
theorem F_spec_l07Thirds_fn (i o v : Nat) (a b c : AV) ( H : Heap)  (hcs : ldN H ⟨i, o, v⟩ 3 = some [a, b, c])(l : List Nat) (hl : rd cF H a = some l) (m : List Nat) (hm : rd cF H b = some m) (u : List Nat) (hu : rd cF H c = some u) : FnOk Try.prog 43 [.ptr ⟨i, o, v⟩] H (.bool (thirdsOk l m u)) (H) := by
  have hO : SoundO Try.prog (tab [(35, F_spec_l02Finite)]) := (tab_cons F_spec_l02Finite_ok (tab_nil _))
  refine FnOk_of hO Try.func43 Try.call43 rfl fun hws hin => awp_ok hO _ _ _ _ ?_
  have hbl := rd_bound hl
  have hwl := rd_within hl
  have hLl := fun L => rd_app hl L
  have hnl := rd_lenA hl Try.underlying22
  have hnLl := fun L => rd_lenA (hLl L) Try.underlying22
  have hil := fun i (hi : i < l.length) => rd_idx hl Try.underlying22 sz23 .i64 i hi
  have hiLl := fun L i (hi : i < l.length) => rd_idx (hLl L) Try.underlying22 sz23 .i64 i hi
  have hgl := fun i (hi : i < l.length) => rd_ldD hl Try.underlying23 rfl i hi
  have hgLl := fun L i (hi : i < l.length) => rd_ldD (hLl L) Try.underlying23 rfl i hi
  have hzl : 0 < l.length → indexAddrA Try.prog H 22 a (.int .i64 0) = some (AV.plc a 0) := fun h => hil 0 h
  have hzLl : ∀ L, 0 < l.length → indexAddrA Try.prog (H ++ L) 22 a (.int .i64 0) = some (AV.plc a 0) := fun L h => hiLl L 0 h
  have hkl := rd_cellOk hl
  have hkLl := fun L => rd_cellOk (hLl L)
  simp only [cF_en, cI_en, cB_en, cD_en, cU8_en] at hgl hgLl
  have hwLl := fun m => within_mono (Nat.le_add_right _ m) a hwl
  have hbm := rd_bound hm
  have hwm := rd_within hm
  have hLm := fun L => rd_app hm L
  have hnm := rd_lenA hm Try.underlying22
  have hnLm := fun L => rd_lenA (hLm L) Try.underlying22
  have him := fun i (hi : i < m.length) => rd_idx hm Try.underlying22 sz23 .i64 i hi
  have hiLm := fun L i (hi : i < m.length) => rd_idx (hLm L) Try.underlying22 sz23 .i64 i hi
  have hgm := fun i (hi : i < m.length) => rd_ldD hm Try.underlying23 rfl i hi
  have hgLm := fun L i (hi : i < m.length) => rd_ldD (hLm L) Try.underlying23 rfl i hi
  have hzm : 0 < m.length → indexAddrA Try.prog H 22 b (.int .i64 0) = some (AV.plc b 0) := fun h => him 0 h
  have hzLm : ∀ L, 0 < m.length → indexAddrA Try.prog (H ++ L) 22 b (.int .i64 0) = some (AV.plc b 0) := fun L h => hiLm L 0 h
  have hkm := rd_cellOk hm
  have hkLm := fun L => rd_cellOk (hLm L)
  simp only [cF_en, cI_en, cB_en, cD_en, cU8_en] at hgm hgLm
  have hwLm := fun m => within_mono (Nat.le_add_right _ m) b hwm
  have hbu := rd_bound hu
  have hwu := rd_within hu
  have hLu := fun L => rd_app hu L
  have hnu := rd_lenA hu Try.underlying22
  have hnLu := fun L => rd_lenA (hLu L) Try.underlying22
  have hiu := fun i (hi : i < u.length) => rd_idx hu Try.underlying22 sz23 .i64 i hi
  have hiLu := fun L i (hi : i < u.length) => rd_idx (hLu L) Try.underlying22 sz23 .i64 i hi
  have hgu := fun i (hi : i < u.length) => rd_ldD hu Try.underlying23 rfl i hi
  have hgLu := fun L i (hi : i < u.length) => rd_ldD (hLu L) Try.underlying23 rfl i hi
  have hzu : 0 < u.length → indexAddrA Try.prog H 22 c (.int .i64 0) = some (AV.plc c 0) := fun h => hiu 0 h
  have hzLu : ∀ L, 0 < u.length → indexAddrA Try.prog (H ++ L) 22 c (.int .i64 0) = some (AV.plc c 0) := fun L h => hiLu L 0 h
  have hku := rd_cellOk hu
  have hkLu := fun L => rd_cellOk (hLu L)
  simp only [cF_en, cI_en, cB_en, cD_en, cU8_en] at hgu hgLu
  have hwLu := fun m => within_mono (Nat.le_add_right _ m) c hwu
  have hcl := ldN_live hcs
  have hclL := ldN_liveL hcs
  have hcsL := fun L => ldN_app hcs L
  have hcw := ldN_within hcs
  have hcc0 : ldC H ⟨i, o, v⟩ = some a := ldN_ldC hcs 0 (by decide)
  have hccL0 : ∀ L, ldC (H ++ L) ⟨i, o, v⟩ = some a := fun L => ldN_ldC (hcsL L) 0 (by decide)
  have hcc1 : ldC H ⟨i, o + 1, v⟩ = some b := ldN_ldC hcs 1 (by decide)
  have hccL1 : ∀ L, ldC (H ++ L) ⟨i, o + 1, v⟩ = some b := fun L => ldN_ldC (hcsL L) 1 (by decide)
  have hcc2 : ldC H ⟨i, o + 2, v⟩ = some c := ldN_ldC hcs 2 (by decide)
  have hccL2 : ∀ L, ldC (H ++ L) ⟨i, o + 2, v⟩ = some c := fun L => ldN_ldC (hcsL L) 2 (by decide)
  have hw1 := wrap_sub1 m.length
  simp [-List.all_eq_true, -List.all_eq_false, Try.ntmps43, F_spec_l02Finite, hzl, hzLl, hkl, hkLl, hwLl, hl, hLl, hnl, hnLl, hil, hiLl, hgl, hgLl, hwl, hzm, hzLm, hkm, hkLm, hwLm, hm, hLm, hnm, hnLm, him, hiLm, hgm, hgLm, hwm, hzu, hzLu, hku, hkLu, hwLu, hu, hLu, hnu, hnLu, hiu, hiLu, hgu, hgLu, hwu, hcl, hclL, hcs, hcsL, hcw, hcc0, hccL0, hcc1, hccL1, hcc2, hccL2, hw1, newA, ldN, stN, putAt, Nat.add_assoc]
  repeat' first
    | (refine goR_dec _ (fun hq => ?_) (fun hq => ?_) <;> (have hp := hq) <;> (try simp [-List.all_eq_true, -List.all_eq_false] at hp) <;> simp [-List.all_eq_true, -List.all_eq_false, Try.ntmps43, F_spec_l02Finite, hzl, hzLl, hkl, hkLl, hwLl, hl, hLl, hnl, hnLl, hil, hiLl, hgl, hgLl, hwl, hzm, hzLm, hkm, hkLm, hwLm, hm, hLm, hnm, hnLm, him, hiLm, hgm, hgLm, hwm, hzu, hzLu, hku, hkLu, hwLu, hu, hLu, hnu, hnLu, hiu, hiLu, hgu, hgLu, hwu, hcl, hclL, hcs, hcsL, hcw, hcc0, hccL0, hcc1, hccL1, hcc2, hccL2, hw1, newA, ldN, stN, putAt, Nat.add_assoc, hq, *])
    | (refine goR_ndec _ (fun hq => ?_) (fun hq => ?_) <;> (have hp := hq) <;> (try simp [-List.all_eq_true, -List.all_eq_false] at hp) <;> simp [-List.all_eq_true, -List.all_eq_false, Try.ntmps43, F_spec_l02Finite, hzl, hzLl, hkl, hkLl, hwLl, hl, hLl, hnl, hnLl, hil, hiLl, hgl, hgLl, hwl, hzm, hzLm, hkm, hkLm, hwLm, hm, hLm, hnm, hnLm, him, hiLm, hgm, hgLm, hwm, hzu, hzLu, hku, hkLu, hwLu, hu, hLu, hnu, hnLu, hiu, hiLu, hgu, hgLu, hwu, hcl, hclL, hcs, hcsL, hcw, hcc0, hccL0, hcc1, hccL1, hcc2, hccL2, hw1, newA, ldN, stN, putAt, Nat.add_assoc, hq, *])
    | (refine goR_not _ (fun hq => ?_) (fun hq => ?_) <;> (have hp := hq) <;> (try simp [-List.all_eq_true, -List.all_eq_false] at hp) <;> simp [-List.all_eq_true, -List.all_eq_false, Try.ntmps43, F_spec_l02Finite, hzl, hzLl, hkl, hkLl, hwLl, hl, hLl, hnl, hnLl, hil, hiLl, hgl, hgLl, hwl, hzm, hzLm, hkm, hkLm, hwLm, hm, hLm, hnm, hnLm, him, hiLm, hgm, hgLm, hwm, hzu, hzLu, hku, hkLu, hwLu, hu, hLu, hnu, hnLu, hiu, hiLu, hgu, hgLu, hwu, hcl, hclL, hcs, hcsL, hcw, hcc0, hccL0, hcc1, hccL1, hcc2, hccL2, hw1, newA, ldN, stN, putAt, Nat.add_assoc, hq, *])
    | (refine goR_want _ (fun hq => ?_) (fun hq => ?_) <;> (have hp := hq) <;> (try simp [-List.all_eq_true, -List.all_eq_false] at hp) <;> simp [-List.all_eq_true, -List.all_eq_false, Try.ntmps43, F_spec_l02Finite, hzl, hzLl, hkl, hkLl, hwLl, hl, hLl, hnl, hnLl, hil, hiLl, hgl, hgLl, hwl, hzm, hzLm, hkm, hkLm, hwLm, hm, hLm, hnm, hnLm, him, hiLm, hgm, hgLm, hwm, hzu, hzLu, hku, hkLu, hwLu, hu, hLu, hnu, hnLu, hiu, hiLu, hgu, hgLu, hwu, hcl, hclL, hcs, hcsL, hcw, hcc0, hccL0, hcc1, hccL1, hcc2, hccL2, hw1, newA, ldN, stN, putAt, Nat.add_assoc, hq, *])
    | (refine condQ_dec _ (fun hq => ?_) (fun hq => ?_) <;> (have hp := hq) <;> (try simp [-List.all_eq_true, -List.all_eq_false] at hp) <;> simp [-List.all_eq_true, -List.all_eq_false, Try.ntmps43, F_spec_l02Finite, hzl, hzLl, hkl, hkLl, hwLl, hl, hLl, hnl, hnLl, hil, hiLl, hgl, hgLl, hwl, hzm, hzLm, hkm, hkLm, hwLm, hm, hLm, hnm, hnLm, him, hiLm, hgm, hgLm, hwm, hzu, hzLu, hku, hkLu, hwLu, hu, hLu, hnu, hnLu, hiu, hiLu, hgu, hgLu, hwu, hcl, hclL, hcs, hcsL, hcw, hcc0, hccL0, hcc1, hccL1, hcc2, hccL2, hw1, newA, ldN, stN, putAt, Nat.add_assoc, hq, *])
    | (refine condQ_ndec _ (fun hq => ?_) (fun hq => ?_) <;> (have hp := hq) <;> (try simp [-List.all_eq_true, -List.all_eq_false] at hp) <;> simp [-List.all_eq_true, -List.all_eq_false, Try.ntmps43, F_spec_l02Finite, hzl, hzLl, hkl, hkLl, hwLl, hl, hLl, hnl, hnLl, hil, hiLl, hgl, hgLl, hwl, hzm, hzLm, hkm, hkLm, hwLm, hm, hLm, hnm, hnLm, him, hiLm, hgm, hgLm, hwm, hzu, hzLu, hku, hkLu, hwLu, hu, hLu, hnu, hnLu, hiu, hiLu, hgu, hgLu, hwu, hcl, hclL, hcs, hcsL, hcw, hcc0, hccL0, hcc1, hccL1, hcc2, hccL2, hw1, newA, ldN, stN, putAt, Nat.add_assoc, hq, *])
    | (refine condQ_not _ (fun hq => ?_) (fun hq => ?_) <;> (have hp := hq) <;> (try simp [-List.all_eq_true, -List.all_eq_false] at hp) <;> simp [-List.all_eq_true, -List.all_eq_false, Try.ntmps43, F_spec_l02Finite, hzl, hzLl, hkl, hkLl, hwLl, hl, hLl, hnl, hnLl, hil, hiLl, hgl, hgLl, hwl, hzm, hzLm, hkm, hkLm, hwLm, hm, hLm, hnm, hnLm, him, hiLm, hgm, hgLm, hwm, hzu, hzLu, hku, hkLu, hwLu, hu, hLu, hnu, hnLu, hiu, hiLu, hgu, hgLu, hwu, hcl, hclL, hcs, hcsL, hcw, hcc0, hccL0, hcc1, hccL1, hcc2, hccL2, hw1, newA, ldN, stN, putAt, Nat.add_assoc, hq, *])
    | (refine condQ_bool _ (fun hq => ?_) (fun hq => ?_) <;> (have hp := hq) <;> (try simp [-List.all_eq_true, -List.all_eq_false] at hp) <;> simp [-List.all_eq_true, -List.all_eq_false, Try.ntmps43, F_spec_l02Finite, hzl, hzLl, hkl, hkLl, hwLl, hl, hLl, hnl, hnLl, hil, hiLl, hgl, hgLl, hwl, hzm, hzLm, hkm, hkLm, hwLm, hm, hLm, hnm, hnLm, him, hiLm, hgm, hgLm, hwm, hzu, hzLu, hku, hkLu, hwLu, hu, hLu, hnu, hnLu, hiu, hiLu, hgu, hgLu, hwu, hcl, hclL, hcs, hcsL, hcw, hcc0, hccL0, hcc1, hccL1, hcc2, hccL2, hw1, newA, ldN, stN, putAt, Nat.add_assoc, hq, *])
    | simp (disch := omega) [-List.all_eq_true, -List.all_eq_false, Try.ntmps43, F_spec_l02Finite, hzl, hzLl, hkl, hkLl, hwLl, hl, hLl, hnl, hnLl, hil, hiLl, hgl, hgLl, hwl, hzm, hzLm, hkm, hkLm, hwLm, hm, hLm, hnm, hnLm, him, hiLm, hgm, hgLm, hwm, hzu, hzLu, hku, hkLu, hwLu, hu, hLu, hnu, hnLu, hiu, hiLu, hgu, hgLu, hwu, hcl, hclL, hcs, hcsL, hcw, hcc0, hccL0, hcc1, hccL1, hcc2, hccL2, hw1, newA, ldN, stN, putAt, Nat.add_assoc, *]
  all_goals first | exact ret_here hws (by first | (simp [-List.all_eq_true, -List.all_eq_false, thirdsOk, resA, resA1, newA, ldN, stN, *]; done) | (simp [-List.all_eq_true, -List.all_eq_false, thirdsOk, resA, resA1, newA, ldN, stN, *] <;> omega) | (simp [-List.all_eq_true, -List.all_eq_false, thirdsOk, resA, resA1, newA, ldN, stN, *] <;> intros <;> simp_all [-List.all_eq_true, -List.all_eq_false])) (by first | (simp [-List.all_eq_true, -List.all_eq_false, thirdsOk, resA, resA1, newA, ldN, stN, *]; done) | (simp [-List.all_eq_true, -List.all_eq_false, thirdsOk, resA, resA1, newA, ldN, stN, *] <;> omega) | (simp [-List.all_eq_true, -List.all_eq_false, thirdsOk, resA, resA1, newA, ldN, stN, *] <;> intros <;> simp_all [-List.all_eq_true, -List.all_eq_false])) | exact ret_same hws (by first | (simp [-List.all_eq_true, -List.all_eq_false, thirdsOk, resA, resA1, newA, ldN, stN, *]; done) | (simp [-List.all_eq_true, -List.all_eq_false, thirdsOk, resA, resA1, newA, ldN, stN, *] <;> omega) | (simp [-List.all_eq_true, -List.all_eq_false, thirdsOk, resA, resA1, newA, ldN, stN, *] <;> intros <;> simp_all [-List.all_eq_true, -List.all_eq_false])) (by first | (simp [-List.all_eq_true, -List.all_eq_false, thirdsOk, resA, resA1, newA, ldN, stN, *]; done) | (simp [-List.all_eq_true, -List.all_eq_false, thirdsOk, resA, resA1, newA, ldN, stN, *] <;> omega) | (simp [-List.all_eq_true, -List.all_eq_false, thirdsOk, resA, resA1, newA, ldN, stN, *] <;> intros <;> simp_all [-List.all_eq_true, -List.all_eq_false]))
def F_spec_l07Thirds : List AV → Heap → Option (AV × Heap)
  | [.ptr ⟨i, o, v⟩], H => (ldN H ⟨i, o, v⟩ 3).bind fun cs => match cs with | [a, b, c] => (rd cF H a).bind fun l => (rd cF H b).bind fun m => (rd cF H c).bind fun u => some (.bool (thirdsOk l m u), H) | _ => none
  | _, _ => none
theorem F_spec_l07Thirds_ok : FunOk Try.prog 43 F_spec_l07Thirds := by
  intro args H r H' h
  unfold F_spec_l07Thirds at h
  split at h
  · obtain ⟨cs, hcs, h⟩ := Option.bind_eq_some_iff.1 h
    split at h
    · skip
      obtain ⟨l, hl, h⟩ := Option.bind_eq_some_iff.1 h
      obtain ⟨m, hm, h⟩ := Option.bind_eq_some_iff.1 h
      obtain ⟨u, hu, h⟩ := Option.bind_eq_some_iff.1 h
      simp only [Option.some.injEq, Prod.mk.injEq] at h
      obtain ⟨rfl, rfl⟩ := h
      exact F_spec_l07Thirds_fn _ _ _ _ _ _ _ hcs _ hl _ hm _ hu
    · cases h
  · cases h
/-- spec.ValidThirds -/
theorem F_spec_ValidThirds_fn (a b c : AV) ( H : Heap) (l : List Nat) (hl : rd cF H a = some l) (m : List Nat) (hm : rd cF H b = some m) (u : List Nat) (hu : rd cF H c = some u) : FnOk Try.prog 15 [.agg [a, b, c]] H (.bool (thirdsOk l m u)) (H) := by
  have hO : SoundO Try.prog (tab [(43, F_spec_l07Thirds)]) := (tab_cons F_spec_l07Thirds_ok (tab_nil _))
  refine FnOk_of hO Try.func15 Try.call15 rfl fun hws hin => awp_ok hO _ _ _ _ ?_
  have hbl := rd_bound hl
  have hwl := rd_within hl
  have hLl := fun L => rd_app hl L
  have hnl := rd_lenA hl Try.underlying22
  have hnLl := fun L => rd_lenA (hLl L) Try.underlying22
  have hil := fun i (hi : i < l.length) => rd_idx hl Try.underlying22 sz23 .i64 i hi
  have hiLl := fun L i (hi : i < l.length) => rd_idx (hLl L) Try.underlying22 sz23 .i64 i hi
  have hgl := fun i (hi : i < l.length) => rd_ldD hl Try.underlying23 rfl i hi
  have hgLl := fun L i (hi : i < l.length) => rd_ldD (hLl L) Try.underlying23 rfl i hi
  have hzl : 0 < l.length → indexAddrA Try.prog H 22 a (.int .i64 0) = some (AV.plc a 0) := fun h => hil 0 h
  have hzLl : ∀ L, 0 < l.length → indexAddrA Try.prog (H ++ L) 22 a (.int .i64 0) = some (AV.plc a 0) := fun L h => hiLl L 0 h
  have hkl := rd_cellOk hl
  have hkLl := fun L => rd_cellOk (hLl L)
  simp only [cF_en, cI_en, cB_en, cD_en, cU8_en] at hgl hgLl
  have hwLl := fun m => within_mono (Nat.le_add_right _ m) a hwl
  have hbm := rd_bound hm
  have hwm := rd_within hm
  have hLm := fun L => rd_app hm L
  have hnm := rd_lenA hm Try.underlying22
  have hnLm := fun L => rd_lenA (hLm L) Try.underlying22
  have him := fun i (hi : i < m.length) => rd_idx hm Try.underlying22 sz23 .i64 i hi
  have hiLm := fun L i (hi : i < m.length) => rd_idx (hLm L) Try.underlying22 sz23 .i64 i hi
  have hgm := fun i (hi : i < m.length) => rd_ldD hm Try.underlying23 rfl i hi
  have hgLm := fun L i (hi : i < m.length) => rd_ldD (hLm L) Try.underlying23 rfl i hi
  have hzm : 0 < m.length → indexAddrA Try.prog H 22 b (.int .i64 0) = some (AV.plc b 0) := fun h => him 0 h
  have hzLm : ∀ L, 0 < m.length → indexAddrA Try.prog (H ++ L) 22 b (.int .i64 0) = some (AV.plc b 0) := fun L h => hiLm L 0 h
  have hkm := rd_cellOk hm
  have hkLm := fun L => rd_cellOk (hLm L)
  simp only [cF_en, cI_en, cB_en, cD_en, cU8_en] at hgm hgLm
  have hwLm := fun m => within_mono (Nat.le_add_right _ m) b hwm
  have hbu := rd_bound hu
  have hwu := rd_within hu
  have hLu := fun L => rd_app hu L
  have hnu := rd_lenA hu Try.underlying22
  have hnLu := fun L => rd_lenA (hLu L) Try.underlying22
  have hiu := fun i (hi : i < u.length) => rd_idx hu Try.underlying22 sz23 .i64 i hi
  have hiLu := fun L i (hi : i < u.length) => rd_idx (hLu L) Try.underlying22 sz23 .i64 i hi
  have hgu := fun i (hi : i < u.length) => rd_ldD hu Try.underlying23 rfl i hi
  have hgLu := fun L i (hi : i < u.length) => rd_ldD (hLu L) Try.underlying23 rfl i hi
  have hzu : 0 < u.length → indexAddrA Try.prog H 22 c (.int .i64 0) = some (AV.plc c 0) := fun h => hiu 0 h
  have hzLu : ∀ L, 0 < u.length → indexAddrA Try.prog (H ++ L) 22 c (.int .i64 0) = some (AV.plc c 0) := fun L h => hiLu L 0 h
  have hku := rd_cellOk hu
  have hkLu := fun L => rd_cellOk (hLu L)
  simp only [cF_en, cI_en, cB_en, cD_en, cU8_en] at hgu hgLu
  have hwLu := fun m => within_mono (Nat.le_add_right _ m) c hwu
  simp [-List.all_eq_true, -List.all_eq_false, Try.ntmps15, F_spec_l07Thirds, hzl, hzLl, hkl, hkLl, hwLl, hl, hLl, hnl, hnLl, hil, hiLl, hgl, hgLl, hwl, hzm, hzLm, hkm, hkLm, hwLm, hm, hLm, hnm, hnLm, him, hiLm, hgm, hgLm, hwm, hzu, hzLu, hku, hkLu, hwLu, hu, hLu, hnu, hnLu, hiu, hiLu, hgu, hgLu, hwu, newA, ldN, stN, putAt, Nat.add_assoc]
  repeat' first
    | (refine goR_dec _ (fun hq => ?_) (fun hq => ?_) <;> (have hp := hq) <;> (try simp [-List.all_eq_true, -List.all_eq_false] at hp) <;> simp [-List.all_eq_true, -List.all_eq_false, Try.ntmps15, F_spec_l07Thirds, hzl, hzLl, hkl, hkLl, hwLl, hl, hLl, hnl, hnLl, hil, hiLl, hgl, hgLl, hwl, hzm, hzLm, hkm, hkLm, hwLm, hm, hLm, hnm, hnLm, him, hiLm, hgm, hgLm, hwm, hzu, hzLu, hku, hkLu, hwLu, hu, hLu, hnu, hnLu, hiu, hiLu, hgu, hgLu, hwu, newA, ldN, stN, putAt, Nat.add_assoc, hq, *])
    | (refine goR_ndec _ (fun hq => ?_) (fun hq => ?_) <;> (have hp := hq) <;> (try simp [-List.all_eq_true, -List.all_eq_false] at hp) <;> simp [-List.all_eq_true, -List.all_eq_false, Try.ntmps15, F_spec_l07Thirds, hzl, hzLl, hkl, hkLl, hwLl, hl, hLl, hnl, hnLl, hil, hiLl, hgl, hgLl, hwl, hzm, hzLm, hkm, hkLm, hwLm, hm, hLm, hnm, hnLm, him, hiLm, hgm, hgLm, hwm, hzu, hzLu, hku, hkLu, hwLu, hu, hLu, hnu, hnLu, hiu, hiLu, hgu, hgLu, hwu, newA, ldN, stN, putAt, Nat.add_assoc, hq, *])
    | (refine goR_not _ (fun hq => ?_) (fun hq => ?_) <;> (have hp := hq) <;> (try simp [-List.all_eq_true, -List.all_eq_false] at hp) <;> simp [-List.all_eq_true, -List.all_eq_false, Try.ntmps15, F_spec_l07Thirds, hzl, hzLl, hkl, hkLl, hwLl, hl, hLl, hnl, hnLl, hil, hiLl, hgl, hgLl, hwl, hzm, hzLm, hkm, hkLm, hwLm, hm, hLm, hnm, hnLm, him, hiLm, hgm, hgLm, hwm, hzu, hzLu, hku, hkLu, hwLu, hu, hLu, hnu, hnLu, hiu, hiLu, hgu, hgLu, hwu, newA, ldN, stN, putAt, Nat.add_assoc, hq, *])
    | (refine goR_want _ (fun hq => ?_) (fun hq => ?_) <;> (have hp := hq) <;> (try simp [-List.all_eq_true, -List.all_eq_false] at hp) <;> simp [-List.all_eq_true, -List.all_eq_false, Try.ntmps15, F_spec_l07Thirds, hzl, hzLl, hkl, hkLl, hwLl, hl, hLl, hnl, hnLl, hil, hiLl, hgl, hgLl, hwl, hzm, hzLm, hkm, hkLm, hwLm, hm, hLm, hnm, hnLm, him, hiLm, hgm, hgLm, hwm, hzu, hzLu, hku, hkLu, hwLu, hu, hLu, hnu, hnLu, hiu, hiLu, hgu, hgLu, hwu, newA, ldN, stN, putAt, Nat.add_assoc, hq, *])
    | (refine condQ_dec _ (fun hq => ?_) (fun hq => ?_) <;> (have hp := hq) <;> (try simp [-List.all_eq_true, -List.all_eq_false] at hp) <;> simp [-List.all_eq_true, -List.all_eq_false, Try.ntmps15, F_spec_l07Thirds, hzl, hzLl, hkl, hkLl, hwLl, hl, hLl, hnl, hnLl, hil, hiLl, hgl, hgLl, hwl, hzm, hzLm, hkm, hkLm, hwLm, hm, hLm, hnm, hnLm, him, hiLm, hgm, hgLm, hwm, hzu, hzLu, hku, hkLu, hwLu, hu, hLu, hnu, hnLu, hiu, hiLu, hgu, hgLu, hwu, newA, ldN, stN, putAt, Nat.add_assoc, hq, *])
    | (refine condQ_ndec _ (fun hq => ?_) (fun hq => ?_) <;> (have hp := hq) <;> (try simp [-List.all_eq_true, -List.all_eq_false] at hp) <;> simp [-List.all_eq_true, -List.all_eq_false, Try.ntmps15, F_spec_l07Thirds, hzl, hzLl, hkl, hkLl, hwLl, hl, hLl, hnl, hnLl, hil, hiLl, hgl, hgLl, hwl, hzm, hzLm, hkm, hkLm, hwLm, hm, hLm, hnm, hnLm, him, hiLm, hgm, hgLm, hwm, hzu, hzLu, hku, hkLu, hwLu, hu, hLu, hnu, hnLu, hiu, hiLu, hgu, hgLu, hwu, newA, ldN, stN, putAt, Nat.add_assoc, hq, *])
    | (refine condQ_not _ (fun hq => ?_) (fun hq => ?_) <;> (have hp := hq) <;> (try simp [-List.all_eq_true, -List.all_eq_false] at hp) <;> simp [-List.all_eq_true, -List.all_eq_false, Try.ntmps15, F_spec_l07Thirds, hzl, hzLl, hkl, hkLl, hwLl, hl, hLl, hnl, hnLl, hil, hiLl, hgl, hgLl, hwl, hzm, hzLm, hkm, hkLm, hwLm, hm, hLm, hnm, hnLm, him, hiLm, hgm, hgLm, hwm, hzu, hzLu, hku, hkLu, hwLu, hu, hLu, hnu, hnLu, hiu, hiLu, hgu, hgLu, hwu, newA, ldN, stN, putAt, Nat.add_assoc, hq, *])
    | (refine condQ_bool _ (fun hq => ?_) (fun hq => ?_) <;> (have hp := hq) <;> (try simp [-List.all_eq_true, -List.all_eq_false] at hp) <;> simp [-List.all_eq_true, -List.all_eq_false, Try.ntmps15, F_spec_l07Thirds, hzl, hzLl, hkl, hkLl, hwLl, hl, hLl, hnl, hnLl, hil, hiLl, hgl, hgLl, hwl, hzm, hzLm, hkm, hkLm, hwLm, hm, hLm, hnm, hnLm, him, hiLm, hgm, hgLm, hwm, hzu, hzLu, hku, hkLu, hwLu, hu, hLu, hnu, hnLu, hiu, hiLu, hgu, hgLu, hwu, newA, ldN, stN, putAt, Nat.add_assoc, hq, *])
    | simp (disch := omega) [-List.all_eq_true, -List.all_eq_false, Try.ntmps15, F_spec_l07Thirds, hzl, hzLl, hkl, hkLl, hwLl, hl, hLl, hnl, hnLl, hil, hiLl, hgl, hgLl, hwl, hzm, hzLm, hkm, hkLm, hwLm, hm, hLm, hnm, hnLm, him, hiLm, hgm, hgLm, hwm, hzu, hzLu, hku, hkLu, hwLu, hu, hLu, hnu, hnLu, hiu, hiLu, hgu, hgLu, hwu, newA, ldN, stN, putAt, Nat.add_assoc, *]
  all_goals first | exact ret_here hws (by first | (simp [-List.all_eq_true, -List.all_eq_false, resA, resA1, newA, ldN, stN, *]; done) | (simp [-List.all_eq_true, -List.all_eq_false, resA, resA1, newA, ldN, stN, *] <;> omega) | (simp [-List.all_eq_true, -List.all_eq_false, resA, resA1, newA, ldN, stN, *] <;> intros <;> simp_all [-List.all_eq_true, -List.all_eq_false])) (by first | (simp [-List.all_eq_true, -List.all_eq_false, resA, resA1, newA, ldN, stN, *]; done) | (simp [-List.all_eq_true, -List.all_eq_false, resA, resA1, newA, ldN, stN, *] <;> omega) | (simp [-List.all_eq_true, -List.all_eq_false, resA, resA1, newA, ldN, stN, *] <;> intros <;> simp_all [-List.all_eq_true, -List.all_eq_false])) | exact ret_same hws (by first | (simp [-List.all_eq_true, -List.all_eq_false, resA, resA1, newA, ldN, stN, *]; done) | (simp [-List.all_eq_true, -List.all_eq_false, resA, resA1, newA, ldN, stN, *] <;> omega) | (simp [-List.all_eq_true, -List.all_eq_false, resA, resA1, newA, ldN, stN, *] <;> intros <;> simp_all [-List.all_eq_true, -List.all_eq_false])) (by first | (simp [-List.all_eq_true, -List.all_eq_false, resA, resA1, newA, ldN, stN, *]; done) | (simp [-List.all_eq_true, -List.all_eq_false, resA, resA1, newA, ldN, stN, *] <;> omega) | (simp [-List.all_eq_true, -List.all_eq_false, resA, resA1, newA, ldN, stN, *] <;> intros <;> simp_all [-List.all_eq_true, -List.all_eq_false]))
def F_spec_ValidThirds : List AV → Heap → Option (AV × Heap)
  | [.agg [a, b, c]], H => (rd cF H a).bind fun l => (rd cF H b).bind fun m => (rd cF H c).bind fun u => some (.bool (thirdsOk l m u), H)
  | _, _ => none
theorem F_spec_ValidThirds_ok : FunOk Try.prog 15 F_spec_ValidThirds := by
  intro args H r H' h
  unfold F_spec_ValidThirds at h
  split at h
  · obtain ⟨l, hl, h⟩ := Option.bind_eq_some_iff.1 h
    obtain ⟨m, hm, h⟩ := Option.bind_eq_some_iff.1 h
    obtain ⟨u, hu, h⟩ := Option.bind_eq_some_iff.1 h
    simp only [Option.some.injEq, Prod.mk.injEq] at h
    obtain ⟨rfl, rfl⟩ := h
    exact F_spec_ValidThirds_fn _ _ _ _ _ hl _ hm _ hu
  · cases h
/-- laws.szThirds -/
theorem F_laws_szThirds_fn (a b c : AV) (n : Int) ( H : Heap) (x : Nat) (hx : slen H a = some x) (y : Nat) (hy : slen H b = some y) (z : Nat) (hz : slen H c = some z) (hc : 0 ≤ n ∧ n ≤ 1048576) : FnOk Try.prog 14 [.agg [a, b, c], .int .i64 n] H (.int .i64 (szThirds x y z n)) (H) := by
  have hO : SoundO Try.prog (tab [(42, F_laws_szFloat32S)]) := (tab_cons F_laws_szFloat32S_ok (tab_nil _))
  refine FnOk_of hO Try.func14 Try.call14 rfl fun hws hin => awp_ok hO _ _ _ _ ?_
  have hbx := slen_lt hx
  have hwx := slen_within hx
  have hLx := fun L => slen_app hx L
  have hnx := slen_lenA hx Try.underlying22
  have hnLx := fun L => slen_lenA (hLx L) Try.underlying22
  have hkx := slen_cellOk hx
  have hkLx := fun L => slen_cellOk (hLx L)
  have hby := slen_lt hy
  have hwy := slen_within hy
  have hLy := fun L => slen_app hy L
  have hny := slen_lenA hy Try.underlying22
  have hnLy := fun L => slen_lenA (hLy L) Try.underlying22
  have hky := slen_cellOk hy
  have hkLy := fun L => slen_cellOk (hLy L)
  have hbz := slen_lt hz
  have hwz := slen_within hz
  have hLz := fun L => slen_app hz L
  have hnz := slen_lenA hz Try.underlying22
  have hnLz := fun L => slen_lenA (hLz L) Try.underlying22
  have hkz := slen_cellOk hz
  have hkLz := fun L => slen_cellOk (hLz L)
  have b1 := szF_le x n hc.2
  have b2 := szF_le y (szF x n) b1
  have b3 := szF_le z (szF y (szF x n)) b2
  simp [-List.all_eq_true, -List.all_eq_false, Try.ntmps14, F_laws_szFloat32S, hx, hLx, hnx, hnLx, hkx, hkLx, hwx, hy, hLy, hny, hnLy, hky, hkLy, hwy, hz, hLz, hnz, hnLz, hkz, hkLz, hwz, hc, b1, b2, b3, newA, ldN, stN, putAt, Nat.add_assoc]
  repeat' first
    | (refine goR_dec _ (fun hq => ?_) (fun hq => ?_) <;> (have hp := hq) <;> (try simp [-List.all_eq_true, -List.all_eq_false] at hp) <;> simp [-List.all_eq_true, -List.all_eq_false, Try.ntmps14, F_laws_szFloat32S, hx, hLx, hnx, hnLx, hkx, hkLx, hwx, hy, hLy, hny, hnLy, hky, hkLy, hwy, hz, hLz, hnz, hnLz, hkz, hkLz, hwz, hc, b1, b2, b3, newA, ldN, stN, putAt, Nat.add_assoc, hq, *])
    | (refine goR_ndec _ (fun hq => ?_) (fun hq => ?_) <;> (have hp := hq) <;> (try simp [-List.all_eq_true, -List.all_eq_false] at hp) <;> simp [-List.all_eq_true, -List.all_eq_false, Try.ntmps14, F_laws_szFloat32S, hx, hLx, hnx, hnLx, hkx, hkLx, hwx, hy, hLy, hny, hnLy, hky, hkLy, hwy, hz, hLz, hnz, hnLz, hkz, hkLz, hwz, hc, b1, b2, b3, newA, ldN, stN, putAt, Nat.add_assoc, hq, *])
    | (refine goR_not _ (fun hq => ?_) (fun hq => ?_) <;> (have hp := hq) <;> (try simp [-List.all_eq_true, -List.all_eq_false] at hp) <;> simp [-List.all_eq_true, -List.all_eq_false, Try.ntmps14, F_laws_szFloat32S, hx, hLx, hnx, hnLx, hkx, hkLx, hwx, hy, hLy, hny, hnLy, hky, hkLy, hwy, hz, hLz, hnz, hnLz, hkz, hkLz, hwz, hc, b1, b2, b3, newA, ldN, stN, putAt, Nat.add_assoc, hq, *])
    | (refine goR_want _ (fun hq => ?_) (fun hq => ?_) <;> (have hp := hq) <;> (try simp [-List.all_eq_true, -List.all_eq_false] at hp) <;> simp [-List.all_eq_true, -List.all_eq_false, Try.ntmps14, F_laws_szFloat32S, hx, hLx, hnx, hnLx, hkx, hkLx, hwx, hy, hLy, hny, hnLy, hky, hkLy, hwy, hz, hLz, hnz, hnLz, hkz, hkLz, hwz, hc, b1, b2, b3, newA, ldN, stN, putAt, Nat.add_assoc, hq, *])
    | (refine condQ_dec _ (fun hq => ?_) (fun hq => ?_) <;> (have hp := hq) <;> (try simp [-List.all_eq_true, -List.all_eq_false] at hp) <;> simp [-List.all_eq_true, -List.all_eq_false, Try.ntmps14, F_laws_szFloat32S, hx, hLx, hnx, hnLx, hkx, hkLx, hwx, hy, hLy, hny, hnLy, hky, hkLy, hwy, hz, hLz, hnz, hnLz, hkz, hkLz, hwz, hc, b1, b2, b3, newA, ldN, stN, putAt, Nat.add_assoc, hq, *])
    | (refine condQ_ndec _ (fun hq => ?_) (fun hq => ?_) <;> (have hp := hq) <;> (try simp [-List.all_eq_true, -List.all_eq_false] at hp) <;> simp [-List.all_eq_true, -List.all_eq_false, Try.ntmps14, F_laws_szFloat32S, hx, hLx, hnx, hnLx, hkx, hkLx, hwx, hy, hLy, hny, hnLy, hky, hkLy, hwy, hz, hLz, hnz, hnLz, hkz, hkLz, hwz, hc, b1, b2, b3, newA, ldN, stN, putAt, Nat.add_assoc, hq, *])
    | (refine condQ_not _ (fun hq => ?_) (fun hq => ?_) <;> (have hp := hq) <;> (try simp [-List.all_eq_true, -List.all_eq_false] at hp) <;> simp [-List.all_eq_true, -List.all_eq_false, Try.ntmps14, F_laws_szFloat32S, hx, hLx, hnx, hnLx, hkx, hkLx, hwx, hy, hLy, hny, hnLy, hky, hkLy, hwy, hz, hLz, hnz, hnLz, hkz, hkLz, hwz, hc, b1, b2, b3, newA, ldN, stN, putAt, Nat.add_assoc, hq, *])
    | (refine condQ_bool _ (fun hq => ?_) (fun hq => ?_) <;> (have hp := hq) <;> (try simp [-List.all_eq_true, -List.all_eq_false] at hp) <;> simp [-List.all_eq_true, -List.all_eq_false, Try.ntmps14, F_laws_szFloat32S, hx, hLx, hnx, hnLx, hkx, hkLx, hwx, hy, hLy, hny, hnLy, hky, hkLy, hwy, hz, hLz, hnz, hnLz, hkz, hkLz, hwz, hc, b1, b2, b3, newA, ldN, stN, putAt, Nat.add_assoc, hq, *])
    | simp (disch := omega) [-List.all_eq_true, -List.all_eq_false, Try.ntmps14, F_laws_szFloat32S, hx, hLx, hnx, hnLx, hkx, hkLx, hwx, hy, hLy, hny, hnLy, hky, hkLy, hwy, hz, hLz, hnz, hnLz, hkz, hkLz, hwz, hc, b1, b2, b3, newA, ldN, stN, putAt, Nat.add_assoc, *]
  all_goals first | exact ret_here hws (by first | (simp [-List.all_eq_true, -List.all_eq_false, szThirds, resA, resA1, newA, ldN, stN, *]; done) | (simp [-List.all_eq_true, -List.all_eq_false, szThirds, resA, resA1, newA, ldN, stN, *] <;> omega) | (simp [-List.all_eq_true, -List.all_eq_false, szThirds, resA, resA1, newA, ldN, stN, *] <;> intros <;> simp_all [-List.all_eq_true, -List.all_eq_false])) (by first | (simp [-List.all_eq_true, -List.all_eq_false, szThirds, resA, resA1, newA, ldN, stN, *]; done) | (simp [-List.all_eq_true, -List.all_eq_false, szThirds, resA, resA1, newA, ldN, stN, *] <;> omega) | (simp [-List.all_eq_true, -List.all_eq_false, szThirds, resA, resA1, newA, ldN, stN, *] <;> intros <;> simp_all [-List.all_eq_true, -List.all_eq_false])) | exact ret_same hws (by first | (simp [-List.all_eq_true, -List.all_eq_false, szThirds, resA, resA1, newA, ldN, stN, *]; done) | (simp [-List.all_eq_true, -List.all_eq_false, szThirds, resA, resA1, newA, ldN, stN, *] <;> omega) | (simp [-List.all_eq_true, -List.all_eq_false, szThirds, resA, resA1, newA, ldN, stN, *] <;> intros <;> simp_all [-List.all_eq_true, -List.all_eq_false])) (by first | (simp [-List.all_eq_true, -List.all_eq_false, szThirds, resA, resA1, newA, ldN, stN, *]; done) | (simp [-List.all_eq_true, -List.all_eq_false, szThirds, resA, resA1, newA, ldN, stN, *] <;> omega) | (simp [-List.all_eq_true, -List.all_eq_false, szThirds, resA, resA1, newA, ldN, stN, *] <;> intros <;> simp_all [-List.all_eq_true, -List.all_eq_false]))
def F_laws_szThirds : List AV → Heap → Option (AV × Heap)
  | [.agg [a, b, c], .int .i64 n], H => (slen H a).bind fun x => (slen H b).bind fun y => (slen H c).bind fun z => if 0 ≤ n ∧ n ≤ 1048576 then some (.int .i64 (szThirds x y z n), H) else none
  | _, _ => none
theorem F_laws_szThirds_ok : FunOk Try.prog 14 F_laws_szThirds := by
  intro args H r H' h
  unfold F_laws_szThirds at h
  split at h
  · obtain ⟨x, hx, h⟩ := Option.bind_eq_some_iff.1 h
    obtain ⟨y, hy, h⟩ := Option.bind_eq_some_iff.1 h
    obtain ⟨z, hz, h⟩ := Option.bind_eq_some_iff.1 h
    split at h
    · rename_i hc
      simp only [Option.some.injEq, Prod.mk.injEq] at h
      obtain ⟨rfl, rfl⟩ := h
      exact F_laws_szThirds_fn _ _ _ _ _ _ hx _ hy _ hz hc
    · cases h
  · cases h
/-- laws.toThirds -/
theorem F_laws_toThirds_fn (a b c : AV) ( H : Heap) (l : List Nat) (hl : rd cF H a = some l) (m : List Nat) (hm : rd cF H b = some m) (u : List Nat) (hu : rd cF H c = some u) : FnOk Try.prog 16 [.agg [a, b, c]] H (.agg [.slc ⟨H.length, 0, l.length⟩ l.length, .slc ⟨H.length + 1, 0, m.length⟩ m.length, .slc ⟨H.length + 2, 0, u.length⟩ u.length]) (H ++ [blk cF l, blk cF m, blk cF u]) := by
  have hO : SoundO Try.prog (tab [(10, F_laws_toFloat32S)]) := (tab_cons F_laws_toFloat32S_ok (tab_nil _))
  refine FnOk_of hO Try.func16 Try.call16 rfl fun hws hin => awp_ok hO _ _ _ _ ?_
  have hbl := rd_bound hl
  have hwl := rd_within hl
  have hLl := fun L => rd_app hl L
  have hnl := rd_lenA hl Try.underlying22
  have hnLl := fun L => rd_lenA (hLl L) Try.underlying22
  have hil := fun i (hi : i < l.length) => rd_idx hl Try.underlying22 sz23 .i64 i hi
  have hiLl := fun L i (hi : i < l.length) => rd_idx (hLl L) Try.underlying22 sz23 .i64 i hi
  have hgl := fun i (hi : i < l.length) => rd_ldD hl Try.underlying23 rfl i hi
  have hgLl := fun L i (hi : i < l.length) => rd_ldD (hLl L) Try.underlying23 rfl i hi
  have hzl : 0 < l.length → indexAddrA Try.prog H 22 a (.int .i64 0) = some (AV.plc a 0) := fun h => hil 0 h
  have hzLl : ∀ L, 0 < l.length → indexAddrA Try.prog (H ++ L) 22 a (.int .i64 0) = some (AV.plc a 0) := fun L h => hiLl L 0 h
  have hkl := rd_cellOk hl
  have hkLl := fun L => rd_cellOk (hLl L)
  simp only [cF_en, cI_en, cB_en, cD_en, cU8_en] at hgl hgLl
  have hwLl := fun m => within_mono (Nat.le_add_right _ m) a hwl
  have hbm := rd_bound hm
  have hwm := rd_within hm
  have hLm := fun L => rd_app hm L
  have hnm := rd_lenA hm Try.underlying22
  have hnLm := fun L => rd_lenA (hLm L) Try.underlying22
  have him := fun i (hi : i < m.length) => rd_idx hm Try.underlying22 sz23 .i64 i hi
  have hiLm := fun L i (hi : i < m.length) => rd_idx (hLm L) Try.underlying22 sz23 .i64 i hi
  have hgm := fun i (hi : i < m.length) => rd_ldD hm Try.underlying23 rfl i hi
  have hgLm := fun L i (hi : i < m.length) => rd_ldD (hLm L) Try.underlying23 rfl i hi
  have hzm : 0 < m.length → indexAddrA Try.prog H 22 b (.int .i64 0) = some (AV.plc b 0) := fun h => him 0 h
  have hzLm : ∀ L, 0 < m.length → indexAddrA Try.prog (H ++ L) 22 b (.int .i64 0) = some (AV.plc b 0) := fun L h => hiLm L 0 h
  have hkm := rd_cellOk hm
  have hkLm := fun L => rd_cellOk (hLm L)
  simp only [cF_en, cI_en, cB_en, cD_en, cU8_en] at hgm hgLm
  have hwLm := fun m => within_mono (Nat.le_add_right _ m) b hwm
  have hbu := rd_bound hu
  have hwu := rd_within hu
  have hLu := fun L => rd_app hu L
  have hnu := rd_lenA hu Try.underlying22
  have hnLu := fun L => rd_lenA (hLu L) Try.underlying22
  have hiu := fun i (hi : i < u.length) => rd_idx hu Try.underlying22 sz23 .i64 i hi
  have hiLu := fun L i (hi : i < u.length) => rd_idx (hLu L) Try.underlying22 sz23 .i64 i hi
  have hgu := fun i (hi : i < u.length) => rd_ldD hu Try.underlying23 rfl i hi
  have hgLu := fun L i (hi : i < u.length) => rd_ldD (hLu L) Try.underlying23 rfl i hi
  have hzu : 0 < u.length → indexAddrA Try.prog H 22 c (.int .i64 0) = some (AV.plc c 0) := fun h => hiu 0 h
  have hzLu : ∀ L, 0 < u.length → indexAddrA Try.prog (H ++ L) 22 c (.int .i64 0) = some (AV.plc c 0) := fun L h => hiLu L 0 h
  have hku := rd_cellOk hu
  have hkLu := fun L => rd_cellOk (hLu L)
  simp only [cF_en, cI_en, cB_en, cD_en, cU8_en] at hgu hgLu
  have hwLu := fun m => within_mono (Nat.le_add_right _ m) c hwu
  simp [-List.all_eq_true, -List.all_eq_false, Try.ntmps16, F_laws_toFloat32S, hzl, hzLl, hkl, hkLl, hwLl, hl, hLl, hnl, hnLl, hil, hiLl, hgl, hgLl, hwl, hzm, hzLm, hkm, hkLm, hwLm, hm, hLm, hnm, hnLm, him, hiLm, hgm, hgLm, hwm, hzu, hzLu, hku, hkLu, hwLu, hu, hLu, hnu, hnLu, hiu, hiLu, hgu, hgLu, hwu, newA, ldN, stN, putAt, Nat.add_assoc]
  repeat' first
    | (refine goR_dec _ (fun hq => ?_) (fun hq => ?_) <;> (have hp := hq) <;> (try simp [-List.all_eq_true, -List.all_eq_false] at hp) <;> simp [-List.all_eq_true, -List.all_eq_false, Try.ntmps16, F_laws_toFloat32S, hzl, hzLl, hkl, hkLl, hwLl, hl, hLl, hnl, hnLl, hil, hiLl, hgl, hgLl, hwl, hzm, hzLm, hkm, hkLm, hwLm, hm, hLm, hnm, hnLm, him, hiLm, hgm, hgLm, hwm, hzu, hzLu, hku, hkLu, hwLu, hu, hLu, hnu, hnLu, hiu, hiLu, hgu, hgLu, hwu, newA, ldN, stN, putAt, Nat.add_assoc, hq, *])
    | (refine goR_ndec _ (fun hq => ?_) (fun hq => ?_) <;> (have hp := hq) <;> (try simp [-List.all_eq_true, -List.all_eq_false] at hp) <;> simp [-List.all_eq_true, -List.all_eq_false, Try.ntmps16, F_laws_toFloat32S, hzl, hzLl, hkl, hkLl, hwLl, hl, hLl, hnl, hnLl, hil, hiLl, hgl, hgLl, hwl, hzm, hzLm, hkm, hkLm, hwLm, hm, hLm, hnm, hnLm, him, hiLm, hgm, hgLm, hwm, hzu, hzLu, hku, hkLu, hwLu, hu, hLu, hnu, hnLu, hiu, hiLu, hgu, hgLu, hwu, newA, ldN, stN, putAt, Nat.add_assoc, hq, *])
    | (refine goR_not _ (fun hq => ?_) (fun hq => ?_) <;> (have hp := hq) <;> (try simp [-List.all_eq_true, -List.all_eq_false] at hp) <;> simp [-List.all_eq_true, -List.all_eq_false, Try.ntmps16, F_laws_toFloat32S, hzl, hzLl, hkl, hkLl, hwLl, hl, hLl, hnl, hnLl, hil, hiLl, hgl, hgLl, hwl, hzm, hzLm, hkm, hkLm, hwLm, hm, hLm, hnm, hnLm, him, hiLm, hgm, hgLm, hwm, hzu, hzLu, hku, hkLu, hwLu, hu, hLu, hnu, hnLu, hiu, hiLu, hgu, hgLu, hwu, newA, ldN, stN, putAt, Nat.add_assoc, hq, *])
    | (refine goR_want _ (fun hq => ?_) (fun hq => ?_) <;> (have hp := hq) <;> (try simp [-List.all_eq_true, -List.all_eq_false] at hp) <;> simp [-List.all_eq_true, -List.all_eq_false, Try.ntmps16, F_laws_toFloat32S, hzl, hzLl, hkl, hkLl, hwLl, hl, hLl, hnl, hnLl, hil, hiLl, hgl, hgLl, hwl, hzm, hzLm, hkm, hkLm, hwLm, hm, hLm, hnm, hnLm, him, hiLm, hgm, hgLm, hwm, hzu, hzLu, hku, hkLu, hwLu, hu, hLu, hnu, hnLu, hiu, hiLu, hgu, hgLu, hwu, newA, ldN, stN, putAt, Nat.add_assoc, hq, *])
    | (refine condQ_dec _ (fun hq => ?_) (fun hq => ?_) <;> (have hp := hq) <;> (try simp [-List.all_eq_true, -List.all_eq_false] at hp) <;> simp [-List.all_eq_true, -List.all_eq_false, Try.ntmps16, F_laws_toFloat32S, hzl, hzLl, hkl, hkLl, hwLl, hl, hLl, hnl, hnLl, hil, hiLl, hgl, hgLl, hwl, hzm, hzLm, hkm, hkLm, hwLm, hm, hLm, hnm, hnLm, him, hiLm, hgm, hgLm, hwm, hzu, hzLu, hku, hkLu, hwLu, hu, hLu, hnu, hnLu, hiu, hiLu, hgu, hgLu, hwu, newA, ldN, stN, putAt, Nat.add_assoc, hq, *])
    | (refine condQ_ndec _ (fun hq => ?_) (fun hq => ?_) <;> (have hp := hq) <;> (try simp [-List.all_eq_true, -List.all_eq_false] at hp) <;> simp [-List.all_eq_true, -List.all_eq_false, Try.ntmps16, F_laws_toFloat32S, hzl, hzLl, hkl, hkLl, hwLl, hl, hLl, hnl, hnLl, hil, hiLl, hgl, hgLl, hwl, hzm, hzLm, hkm, hkLm, hwLm, hm, hLm, hnm, hnLm, him, hiLm, hgm, hgLm, hwm, hzu, hzLu, hku, hkLu, hwLu, hu, hLu, hnu, hnLu, hiu, hiLu, hgu, hgLu, hwu, newA, ldN, stN, putAt, Nat.add_assoc, hq, *])
    | (refine condQ_not _ (fun hq => ?_) (fun hq => ?_) <;> (have hp := hq) <;> (try simp [-List.all_eq_true, -List.all_eq_false] at hp) <;> simp [-List.all_eq_true, -List.all_eq_false, Try.ntmps16, F_laws_toFloat32S, hzl, hzLl, hkl, hkLl, hwLl, hl, hLl, hnl, hnLl, hil, hiLl, hgl, hgLl, hwl, hzm, hzLm, hkm, hkLm, hwLm, hm, hLm, hnm, hnLm, him, hiLm, hgm, hgLm, hwm, hzu, hzLu, hku, hkLu, hwLu, hu, hLu, hnu, hnLu, hiu, hiLu, hgu, hgLu, hwu, newA, ldN, stN, putAt, Nat.add_assoc, hq, *])
    | (refine condQ_bool _ (fun hq => ?_) (fun hq => ?_) <;> (have hp := hq) <;> (try simp [-List.all_eq_true, -List.all_eq_false] at hp) <;> simp [-List.all_eq_true, -List.all_eq_false, Try.ntmps16, F_laws_toFloat32S, hzl, hzLl, hkl, hkLl, hwLl, hl, hLl, hnl, hnLl, hil, hiLl, hgl, hgLl, hwl, hzm, hzLm, hkm, hkLm, hwLm, hm, hLm, hnm, hnLm, him, hiLm, hgm, hgLm, hwm, hzu, hzLu, hku, hkLu, hwLu, hu, hLu, hnu, hnLu, hiu, hiLu, hgu, hgLu, hwu, newA, ldN, stN, putAt, Nat.add_assoc, hq, *])
    | simp (disch := omega) [-List.all_eq_true, -List.all_eq_false, Try.ntmps16, F_laws_toFloat32S, hzl, hzLl, hkl, hkLl, hwLl, hl, hLl, hnl, hnLl, hil, hiLl, hgl, hgLl, hwl, hzm, hzLm, hkm, hkLm, hwLm, hm, hLm, hnm, hnLm, him, hiLm, hgm, hgLm, hwm, hzu, hzLu, hku, hkLu, hwLu, hu, hLu, hnu, hnLu, hiu, hiLu, hgu, hgLu, hwu, newA, ldN, stN, putAt, Nat.add_assoc, *]
  all_goals exact ret_keep [3, 4, 5] hws (by simp) (by simp) (by simp [AV.isFlat]) (by simp [-List.all_eq_true, -List.all_eq_false, resA, resA1, newA, ldN, stN, *]; rfl) (by simp [AV.ren, AVs.ren, -List.all_eq_true, -List.all_eq_false, resA, resA1, newA, ldN, stN, *])
def F_laws_toThirds : List AV → Heap → Option (AV × Heap)
  | [.agg [a, b, c]], H => (rd cF H a).bind fun l => (rd cF H b).bind fun m => (rd cF H c).bind fun u => some (.agg [.slc ⟨H.length, 0, l.length⟩ l.length, .slc ⟨H.length + 1, 0, m.length⟩ m.length, .slc ⟨H.length + 2, 0, u.length⟩ u.length], H ++ [blk cF l, blk cF m, blk cF u])
  | _, _ => none
theorem F_laws_toThirds_ok : FunOk Try.prog 16 F_laws_toThirds := by
  intro args H r H' h
  unfold F_laws_toThirds at h
  split at h
  · obtain ⟨l, hl, h⟩ := Option.bind_eq_some_iff.1 h
    obtain ⟨m, hm, h⟩ := Option.bind_eq_some_iff.1 h
    obtain ⟨u, hu, h⟩ := Option.bind_eq_some_iff.1 h
    simp only [Option.some.injEq, Prod.mk.injEq] at h
    obtain ⟨rfl, rfl⟩ := h
    exact F_laws_toThirds_fn _ _ _ _ _ hl _ hm _ hu
  · cases h
/-- laws.eqThirds -/
theorem F_laws_eqThirds_fn (a b c d e f : AV) ( H : Heap) (l : List Nat) (hl : rd cF H a = some l) (m : List Nat) (hm : rd cF H b = some m) (u : List Nat) (hu : rd cF H c = some u) (l2 : List Nat) (hl2 : rd cF H d = some l2) (m2 : List Nat) (hm2 : rd cF H e = some m2) (u2 : List Nat) (hu2 : rd cF H f = some u2) (hc : l = l2 ∧ m = m2 ∧ u = u2) : FnOk Try.prog 18 [.agg [a, b, c], .agg [d, e, f]] H (.bool true) (H) := by
  have hO : SoundO Try.prog (tab [(13, F_laws_eqFloat32S)]) := (tab_cons F_laws_eqFloat32S_ok (tab_nil _))
  refine FnOk_of hO Try.func18 Try.call18 rfl fun hws hin => awp_ok hO _ _ _ _ ?_
  have hbl := rd_bound hl
  have hwl := rd_within hl
  have hLl := fun L => rd_app hl L
  have hnl := rd_lenA hl Try.underlying22
  have hnLl := fun L => rd_lenA (hLl L) Try.underlying22
  have hil := fun i (hi : i < l.length) => rd_idx hl Try.underlying22 sz23 .i64 i hi
  have hiLl := fun L i (hi : i < l.length) => rd_idx (hLl L) Try.underlying22 sz23 .i64 i hi
  have hgl := fun i (hi : i < l.length) => rd_ldD hl Try.underlying23 rfl i hi
  have hgLl := fun L i (hi : i < l.length) => rd_ldD (hLl L) Try.underlying23 rfl i hi
  have hzl : 0 < l.length → indexAddrA Try.prog H 22 a (.int .i64 0) = some (AV.plc a 0) := fun h => hil 0 h
  have hzLl : ∀ L, 0 < l.length → indexAddrA Try.prog (H ++ L) 22 a (.int .i64 0) = some (AV.plc a 0) := fun L h => hiLl L 0 h
  have hkl := rd_cellOk hl
  have hkLl := fun L => rd_cellOk (hLl L)
  simp only [cF_en, cI_en, cB_en, cD_en, cU8_en] at hgl hgLl
  have hwLl := fun m => within_mono (Nat.le_add_right _ m) a hwl
  have hbm := rd_bound hm
  have hwm := rd_within hm
  have hLm := fun L => rd_app hm L
  have hnm := rd_lenA hm Try.underlying22
  have hnLm := fun L => rd_lenA (hLm L) Try.underlying22
  have him := fun i (hi : i < m.length) => rd_idx hm Try.underlying22 sz23 .i64 i hi
  have hiLm := fun L i (hi : i < m.length) => rd_idx (hLm L) Try.underlying22 sz23 .i64 i hi
  have hgm := fun i (hi : i < m.length) => rd_ldD hm Try.underlying23 rfl i hi
  have hgLm := fun L i (hi : i < m.length) => rd_ldD (hLm L) Try.underlying23 rfl i hi
  have hzm : 0 < m.length → indexAddrA Try.prog H 22 b (.int .i64 0) = some (AV.plc b 0) := fun h => him 0 h
  have hzLm : ∀ L, 0 < m.length → indexAddrA Try.prog (H ++ L) 22 b (.int .i64 0) = some (AV.plc b 0) := fun L h => hiLm L 0 h
  have hkm := rd_cellOk hm
  have hkLm := fun L => rd_cellOk (hLm L)
  simp only [cF_en, cI_en, cB_en, cD_en, cU8_en] at hgm hgLm
  have hwLm := fun m => within_mono (Nat.le_add_right _ m) b hwm
  have hbu := rd_bound hu
  have hwu := rd_within hu
  have hLu := fun L => rd_app hu L
  have hnu := rd_lenA hu Try.underlying22
  have hnLu := fun L => rd_lenA (hLu L) Try.underlying22
  have hiu := fun i (hi : i < u.length) => rd_idx hu Try.underlying22 sz23 .i64 i hi
  have hiLu := fun L i (hi : i < u.length) => rd_idx (hLu L) Try.underlying22 sz23 .i64 i hi
  have hgu := fun i (hi : i < u.length) => rd_ldD hu Try.underlying23 rfl i hi
  have hgLu := fun L i (hi : i < u.length) => rd_ldD (hLu L) Try.underlying23 rfl i hi
  have hzu : 0 < u.length → indexAddrA Try.prog H 22 c (.int .i64 0) = some (AV.plc c 0) := fun h => hiu 0 h
  have hzLu : ∀ L, 0 < u.length → indexAddrA Try.prog (H ++ L) 22 c (.int .i64 0) = some (AV.plc c 0) := fun L h => hiLu L 0 h
  have hku := rd_cellOk hu
  have hkLu := fun L => rd_cellOk (hLu L)
  simp only [cF_en, cI_en, cB_en, cD_en, cU8_en] at hgu hgLu
  have hwLu := fun m => within_mono (Nat.le_add_right _ m) c hwu
  have hbl2 := rd_bound hl2
  have hwl2 := rd_within hl2
  have hLl2 := fun L => rd_app hl2 L
  have hnl2 := rd_lenA hl2 Try.underlying22
  have hnLl2 := fun L => rd_lenA (hLl2 L) Try.underlying22
  have hil2 := fun i (hi : i < l2.length) => rd_idx hl2 Try.underlying22 sz23 .i64 i hi
  have hiLl2 := fun L i (hi : i < l2.length) => rd_idx (hLl2 L) Try.underlying22 sz23 .i64 i hi
  have hgl2 := fun i (hi : i < l2.length) => rd_ldD hl2 Try.underlying23 rfl i hi
  have hgLl2 := fun L i (hi : i < l2.length) => rd_ldD (hLl2 L) Try.underlying23 rfl i hi
  have hzl2 : 0 < l2.length → indexAddrA Try.prog H 22 d (.int .i64 0) = some (AV.plc d 0) := fun h => hil2 0 h
  have hzLl2 : ∀ L, 0 < l2.length → indexAddrA Try.prog (H ++ L) 22 d (.int .i64 0) = some (AV.plc d 0) := fun L h => hiLl2 L 0 h
  have hkl2 := rd_cellOk hl2
  have hkLl2 := fun L => rd_cellOk (hLl2 L)
  simp only [cF_en, cI_en, cB_en, cD_en, cU8_en] at hgl2 hgLl2
  have hwLl2 := fun m => within_mono (Nat.le_add_right _ m) d hwl2
  have hbm2 := rd_bound hm2
  have hwm2 := rd_within hm2
  have hLm2 := fun L => rd_app hm2 L
  have hnm2 := rd_lenA hm2 Try.underlying22
  have hnLm2 := fun L => rd_lenA (hLm2 L) Try.underlying22
  have him2 := fun i (hi : i < m2.length) => rd_idx hm2 Try.underlying22 sz23 .i64 i hi
  have hiLm2 := fun L i (hi : i < m2.length) => rd_idx (hLm2 L) Try.underlying22 sz23 .i64 i hi
  have hgm2 := fun i (hi : i < m2.length) => rd_ldD hm2 Try.underlying23 rfl i hi
  have hgLm2 := fun L i (hi : i < m2.length) => rd_ldD (hLm2 L) Try.underlying23 rfl i hi
  have hzm2 : 0 < m2.length → indexAddrA Try.prog H 22 e (.int .i64 0) = some (AV.plc e 0) := fun h => him2 0 h
  have hzLm2 : ∀ L, 0 < m2.length → indexAddrA Try.prog (H ++ L) 22 e (.int .i64 0) = some (AV.plc e 0) := fun L h => hiLm2 L 0 h
  have hkm2 := rd_cellOk hm2
  have hkLm2 := fun L => rd_cellOk (hLm2 L)
  simp only [cF_en, cI_en, cB_en, cD_en, cU8_en] at hgm2 hgLm2
  have hwLm2 := fun m => within_mono (Nat.le_add_right _ m) e hwm2
  have hbu2 := rd_bound hu2
  have hwu2 := rd_within hu2
  have hLu2 := fun L => rd_app hu2 L
  have hnu2 := rd_lenA hu2 Try.underlying22
  have hnLu2 := fun L => rd_lenA (hLu2 L) Try.underlying22
  have hiu2 := fun i (hi : i < u2.length) => rd_idx hu2 Try.underlying22 sz23 .i64 i hi
  have hiLu2 := fun L i (hi : i < u2.length) => rd_idx (hLu2 L) Try.underlying22 sz23 .i64 i hi
  have hgu2 := fun i (hi : i < u2.length) => rd_ldD hu2 Try.underlying23 rfl i hi
  have hgLu2 := fun L i (hi : i < u2.length) => rd_ldD (hLu2 L) Try.underlying23 rfl i hi
  have hzu2 : 0 < u2.length → indexAddrA Try.prog H 22 f (.int .i64 0) = some (AV.plc f 0) := fun h => hiu2 0 h
  have hzLu2 : ∀ L, 0 < u2.length → indexAddrA Try.prog (H ++ L) 22 f (.int .i64 0) = some (AV.plc f 0) := fun L h => hiLu2 L 0 h
  have hku2 := rd_cellOk hu2
  have hkLu2 := fun L => rd_cellOk (hLu2 L)
  simp only [cF_en, cI_en, cB_en, cD_en, cU8_en] at hgu2 hgLu2
  have hwLu2 := fun m => within_mono (Nat.le_add_right _ m) f hwu2
  obtain ⟨c1, c2, c3⟩ := hc
  subst c1; subst c2; subst c3
  simp [-List.all_eq_true, -List.all_eq_false, Try.ntmps18, F_laws_eqFloat32S, hzl, hzLl, hkl, hkLl, hwLl, hl, hLl, hnl, hnLl, hil, hiLl, hgl, hgLl, hwl, hzm, hzLm, hkm, hkLm, hwLm, hm, hLm, hnm, hnLm, him, hiLm, hgm, hgLm, hwm, hzu, hzLu, hku, hkLu, hwLu, hu, hLu, hnu, hnLu, hiu, hiLu, hgu, hgLu, hwu, hzl2, hzLl2, hkl2, hkLl2, hwLl2, hl2, hLl2, hnl2, hnLl2, hil2, hiLl2, hgl2, hgLl2, hwl2, hzm2, hzLm2, hkm2, hkLm2, hwLm2, hm2, hLm2, hnm2, hnLm2, him2, hiLm2, hgm2, hgLm2, hwm2, hzu2, hzLu2, hku2, hkLu2, hwLu2, hu2, hLu2, hnu2, hnLu2, hiu2, hiLu2, hgu2, hgLu2, hwu2, newA, ldN, stN, putAt, Nat.add_assoc]
  repeat' first
    | (refine goR_dec _ (fun hq => ?_) (fun hq => ?_) <;> (have hp := hq) <;> (try simp [-List.all_eq_true, -List.all_eq_false] at hp) <;> simp [-List.all_eq_true, -List.all_eq_false, Try.ntmps18, F_laws_eqFloat32S, hzl, hzLl, hkl, hkLl, hwLl, hl, hLl, hnl, hnLl, hil, hiLl, hgl, hgLl, hwl, hzm, hzLm, hkm, hkLm, hwLm, hm, hLm, hnm, hnLm, him, hiLm, hgm, hgLm, hwm, hzu, hzLu, hku, hkLu, hwLu, hu, hLu, hnu, hnLu, hiu, hiLu, hgu, hgLu, hwu, hzl2, hzLl2, hkl2, hkLl2, hwLl2, hl2, hLl2, hnl2, hnLl2, hil2, hiLl2, hgl2, hgLl2, hwl2, hzm2, hzLm2, hkm2, hkLm2, hwLm2, hm2, hLm2, hnm2, hnLm2, him2, hiLm2, hgm2, hgLm2, hwm2, hzu2, hzLu2, hku2, hkLu2, hwLu2, hu2, hLu2, hnu2, hnLu2, hiu2, hiLu2, hgu2, hgLu2, hwu2, newA, ldN, stN, putAt, Nat.add_assoc, hq, *])
    | (refine goR_ndec _ (fun hq => ?_) (fun hq => ?_) <;> (have hp := hq) <;> (try simp [-List.all_eq_true, -List.all_eq_false] at hp) <;> simp [-List.all_eq_true, -List.all_eq_false, Try.ntmps18, F_laws_eqFloat32S, hzl, hzLl, hkl, hkLl, hwLl, hl, hLl, hnl, hnLl, hil, hiLl, hgl, hgLl, hwl, hzm, hzLm, hkm, hkLm, hwLm, hm, hLm, hnm, hnLm, him, hiLm, hgm, hgLm, hwm, hzu, hzLu, hku, hkLu, hwLu, hu, hLu, hnu, hnLu, hiu, hiLu, hgu, hgLu, hwu, hzl2, hzLl2, hkl2, hkLl2, hwLl2, hl2, hLl2, hnl2, hnLl2, hil2, hiLl2, hgl2, hgLl2, hwl2, hzm2, hzLm2, hkm2, hkLm2, hwLm2, hm2, hLm2, hnm2, hnLm2, him2, hiLm2, hgm2, hgLm2, hwm2, hzu2, hzLu2, hku2, hkLu2, hwLu2, hu2, hLu2, hnu2, hnLu2, hiu2, hiLu2, hgu2, hgLu2, hwu2, newA, ldN, stN, putAt, Nat.add_assoc, hq, *])
    | (refine goR_not _ (fun hq => ?_) (fun hq => ?_) <;> (have hp := hq) <;> (try simp [-List.all_eq_true, -List.all_eq_false] at hp) <;> simp [-List.all_eq_true, -List.all_eq_false, Try.ntmps18, F_laws_eqFloat32S, hzl, hzLl, hkl, hkLl, hwLl, hl, hLl, hnl, hnLl, hil, hiLl, hgl, hgLl, hwl, hzm, hzLm, hkm, hkLm, hwLm, hm, hLm, hnm, hnLm, him, hiLm, hgm, hgLm, hwm, hzu, hzLu, hku, hkLu, hwLu, hu, hLu, hnu, hnLu, hiu, hiLu, hgu, hgLu, hwu, hzl2, hzLl2, hkl2, hkLl2, hwLl2, hl2, hLl2, hnl2, hnLl2, hil2, hiLl2, hgl2, hgLl2, hwl2, hzm2, hzLm2, hkm2, hkLm2, hwLm2, hm2, hLm2, hnm2, hnLm2, him2, hiLm2, hgm2, hgLm2, hwm2, hzu2, hzLu2, hku2, hkLu2, hwLu2, hu2, hLu2, hnu2, hnLu2, hiu2, hiLu2, hgu2, hgLu2, hwu2, newA, ldN, stN, putAt, Nat.add_assoc, hq, *])
    | (refine goR_want _ (fun hq => ?_) (fun hq => ?_) <;> (have hp := hq) <;> (try simp [-List.all_eq_true, -List.all_eq_false] at hp) <;> simp [-List.all_eq_true, -List.all_eq_false, Try.ntmps18, F_laws_eqFloat32S, hzl, hzLl, hkl, hkLl, hwLl, hl, hLl, hnl, hnLl, hil, hiLl, hgl, hgLl, hwl, hzm, hzLm, hkm, hkLm, hwLm, hm, hLm, hnm, hnLm, him, hiLm, hgm, hgLm, hwm, hzu, hzLu, hku, hkLu, hwLu, hu, hLu, hnu, hnLu, hiu, hiLu, hgu, hgLu, hwu, hzl2, hzLl2, hkl2, hkLl2, hwLl2, hl2, hLl2, hnl2, hnLl2, hil2, hiLl2, hgl2, hgLl2, hwl2, hzm2, hzLm2, hkm2, hkLm2, hwLm2, hm2, hLm2, hnm2, hnLm2, him2, hiLm2, hgm2, hgLm2, hwm2, hzu2, hzLu2, hku2, hkLu2, hwLu2, hu2, hLu2, hnu2, hnLu2, hiu2, hiLu2, hgu2, hgLu2, hwu2, newA, ldN, stN, putAt, Nat.add_assoc, hq, *])
    | (refine condQ_dec _ (fun hq => ?_) (fun hq => ?_) <;> (have hp := hq) <;> (try simp [-List.all_eq_true, -List.all_eq_false] at hp) <;> simp [-List.all_eq_true, -List.all_eq_false, Try.ntmps18, F_laws_eqFloat32S, hzl, hzLl, hkl, hkLl, hwLl, hl, hLl, hnl, hnLl, hil, hiLl, hgl, hgLl, hwl, hzm, hzLm, hkm, hkLm, hwLm, hm, hLm, hnm, hnLm, him, hiLm, hgm, hgLm, hwm, hzu, hzLu, hku, hkLu, hwLu, hu, hLu, hnu, hnLu, hiu, hiLu, hgu, hgLu, hwu, hzl2, hzLl2, hkl2, hkLl2, hwLl2, hl2, hLl2, hnl2, hnLl2, hil2, hiLl2, hgl2, hgLl2, hwl2, hzm2, hzLm2, hkm2, hkLm2, hwLm2, hm2, hLm2, hnm2, hnLm2, him2, hiLm2, hgm2, hgLm2, hwm2, hzu2, hzLu2, hku2, hkLu2, hwLu2, hu2, hLu2, hnu2, hnLu2, hiu2, hiLu2, hgu2, hgLu2, hwu2, newA, ldN, stN, putAt, Nat.add_assoc, hq, *])
    | (refine condQ_ndec _ (fun hq => ?_) (fun hq => ?_) <;> (have hp := hq) <;> (try simp [-List.all_eq_true, -List.all_eq_false] at hp) <;> simp [-List.all_eq_true, -List.all_eq_false, Try.ntmps18, F_laws_eqFloat32S, hzl, hzLl, hkl, hkLl, hwLl, hl, hLl, hnl, hnLl, hil, hiLl, hgl, hgLl, hwl, hzm, hzLm, hkm, hkLm, hwLm, hm, hLm, hnm, hnLm, him, hiLm, hgm, hgLm, hwm, hzu, hzLu, hku, hkLu, hwLu, hu, hLu, hnu, hnLu, hiu, hiLu, hgu, hgLu, hwu, hzl2, hzLl2, hkl2, hkLl2, hwLl2, hl2, hLl2, hnl2, hnLl2, hil2, hiLl2, hgl2, hgLl2, hwl2, hzm2, hzLm2, hkm2, hkLm2, hwLm2, hm2, hLm2, hnm2, hnLm2, him2, hiLm2, hgm2, hgLm2, hwm2, hzu2, hzLu2, hku2, hkLu2, hwLu2, hu2, hLu2, hnu2, hnLu2, hiu2, hiLu2, hgu2, hgLu2, hwu2, newA, ldN, stN, putAt, Nat.add_assoc, hq, *])
    | (refine condQ_not _ (fun hq => ?_) (fun hq => ?_) <;> (have hp := hq) <;> (try simp [-List.all_eq_true, -List.all_eq_false] at hp) <;> simp [-List.all_eq_true, -List.all_eq_false, Try.ntmps18, F_laws_eqFloat32S, hzl, hzLl, hkl, hkLl, hwLl, hl, hLl, hnl, hnLl, hil, hiLl, hgl, hgLl, hwl, hzm, hzLm, hkm, hkLm, hwLm, hm, hLm, hnm, hnLm, him, hiLm, hgm, hgLm, hwm, hzu, hzLu, hku, hkLu, hwLu, hu, hLu, hnu, hnLu, hiu, hiLu, hgu, hgLu, hwu, hzl2, hzLl2, hkl2, hkLl2, hwLl2, hl2, hLl2, hnl2, hnLl2, hil2, hiLl2, hgl2, hgLl2, hwl2, hzm2, hzLm2, hkm2, hkLm2, hwLm2, hm2, hLm2, hnm2, hnLm2, him2, hiLm2, hgm2, hgLm2, hwm2, hzu2, hzLu2, hku2, hkLu2, hwLu2, hu2, hLu2, hnu2, hnLu2, hiu2, hiLu2, hgu2, hgLu2, hwu2, newA, ldN, stN, putAt, Nat.add_assoc, hq, *])
    | (refine condQ_bool _ (fun hq => ?_) (fun hq => ?_) <;> (have hp := hq) <;> (try simp [-List.all_eq_true, -List.all_eq_false] at hp) <;> simp [-List.all_eq_true, -List.all_eq_false, Try.ntmps18, F_laws_eqFloat32S, hzl, hzLl, hkl, hkLl, hwLl, hl, hLl, hnl, hnLl, hil, hiLl, hgl, hgLl, hwl, hzm, hzLm, hkm, hkLm, hwLm, hm, hLm, hnm, hnLm, him, hiLm, hgm, hgLm, hwm, hzu, hzLu, hku, hkLu, hwLu, hu, hLu, hnu, hnLu, hiu, hiLu, hgu, hgLu, hwu, hzl2, hzLl2, hkl2, hkLl2, hwLl2, hl2, hLl2, hnl2, hnLl2, hil2, hiLl2, hgl2, hgLl2, hwl2, hzm2, hzLm2, hkm2, hkLm2, hwLm2, hm2, hLm2, hnm2, hnLm2, him2, hiLm2, hgm2, hgLm2, hwm2, hzu2, hzLu2, hku2, hkLu2, hwLu2, hu2, hLu2, hnu2, hnLu2, hiu2, hiLu2, hgu2, hgLu2, hwu2, newA, ldN, stN, putAt, Nat.add_assoc, hq, *])
    | simp (disch := omega) [-List.all_eq_true, -List.all_eq_false, Try.ntmps18, F_laws_eqFloat32S, hzl, hzLl, hkl, hkLl, hwLl, hl, hLl, hnl, hnLl, hil, hiLl, hgl, hgLl, hwl, hzm, hzLm, hkm, hkLm, hwLm, hm, hLm, hnm, hnLm, him, hiLm, hgm, hgLm, hwm, hzu, hzLu, hku, hkLu, hwLu, hu, hLu, hnu, hnLu, hiu, hiLu, hgu, hgLu, hwu, hzl2, hzLl2, hkl2, hkLl2, hwLl2, hl2, hLl2, hnl2, hnLl2, hil2, hiLl2, hgl2, hgLl2, hwl2, hzm2, hzLm2, hkm2, hkLm2, hwLm2, hm2, hLm2, hnm2, hnLm2, him2, hiLm2, hgm2, hgLm2, hwm2, hzu2, hzLu2, hku2, hkLu2, hwLu2, hu2, hLu2, hnu2, hnLu2, hiu2, hiLu2, hgu2, hgLu2, hwu2, newA, ldN, stN, putAt, Nat.add_assoc, *]
  all_goals first | exact ret_here hws (by first | (simp [-List.all_eq_true, -List.all_eq_false, resA, resA1, newA, ldN, stN, *]; done) | (simp [-List.all_eq_true, -List.all_eq_false, resA, resA1, newA, ldN, stN, *] <;> omega) | (simp [-List.all_eq_true, -List.all_eq_false, resA, resA1, newA, ldN, stN, *] <;> intros <;> simp_all [-List.all_eq_true, -List.all_eq_false])) (by first | (simp [-List.all_eq_true, -List.all_eq_false, resA, resA1, newA, ldN, stN, *]; done) | (simp [-List.all_eq_true, -List.all_eq_false, resA, resA1, newA, ldN, stN, *] <;> omega) | (simp [-List.all_eq_true, -List.all_eq_false, resA, resA1, newA, ldN, stN, *] <;> intros <;> simp_all [-List.all_eq_true, -List.all_eq_false])) | exact ret_same hws (by first | (simp [-List.all_eq_true, -List.all_eq_false, resA, resA1, newA, ldN, stN, *]; done) | (simp [-List.all_eq_true, -List.all_eq_false, resA, resA1, newA, ldN, stN, *] <;> omega) | (simp [-List.all_eq_true, -List.all_eq_false, resA, resA1, newA, ldN, stN, *] <;> intros <;> simp_all [-List.all_eq_true, -List.all_eq_false])) (by first | (simp [-List.all_eq_true, -List.all_eq_false, resA, resA1, newA, ldN, stN, *]; done) | (simp [-List.all_eq_true, -List.all_eq_false, resA, resA1, newA, ldN, stN, *] <;> omega) | (simp [-List.all_eq_true, -List.all_eq_false, resA, resA1, newA, ldN, stN, *] <;> intros <;> simp_all [-List.all_eq_true, -List.all_eq_false]))
def F_laws_eqThirds : List AV → Heap → Option (AV × Heap)
  | [.agg [a, b, c], .agg [d, e, f]], H => (rd cF H a).bind fun l => (rd cF H b).bind fun m => (rd cF H c).bind fun u => (rd cF H d).bind fun l2 => (rd cF H e).bind fun m2 => (rd cF H f).bind fun u2 => if l = l2 ∧ m = m2 ∧ u = u2 then some (.bool true, H) else none
  | _, _ => none
theorem F_laws_eqThirds_ok : FunOk Try.prog 18 F_laws_eqThirds := by
  intro args H r H' h
  unfold F_laws_eqThirds at h
  split at h
  · obtain ⟨l, hl, h⟩ := Option.bind_eq_some_iff.1 h
    obtain ⟨m, hm, h⟩ := Option.bind_eq_some_iff.1 h
    obtain ⟨u, hu, h⟩ := Option.bind_eq_some_iff.1 h
    obtain ⟨l2, hl2, h⟩ := Option.bind_eq_some_iff.1 h
    obtain ⟨m2, hm2, h⟩ := Option.bind_eq_some_iff.1 h
    obtain ⟨u2, hu2, h⟩ := Option.bind_eq_some_iff.1 h
    split at h
    · rename_i hc
      simp only [Option.some.injEq, Prod.mk.injEq] at h
      obtain ⟨rfl, rfl⟩ := h
      exact F_laws_eqThirds_fn _ _ _ _ _ _ _ _ hl _ hm _ hu _ hl2 _ hm2 _ hu2 hc
    · cases h
  · cases h
end Go.Proofs.Ytbhmllcnfdndhaa.AM
