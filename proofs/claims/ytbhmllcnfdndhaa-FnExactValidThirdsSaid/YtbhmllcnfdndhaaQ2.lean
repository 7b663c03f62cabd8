/- Contracts: Q2. -/
import Derived.Test.YtbhmllcnfdndhaaQ1
namespace Go.Proofs.Ytbhmllcnfdndhaa.AM
open Go.Proofs
set_option maxRecDepth 100000
set_option maxHeartbeats 4000000
set_option linter.unusedSimpArgs false
set_option linter.unusedVariables false
/-- laws.FnExactValidThirds -/
theorem F_laws_FnExactValidThirds_fn (a b c : AV) ( H : Heap) (l : List Nat) (hl : rd cF H a = some l) (m : List Nat) (hm : rd cF H b = some m) (u : List Nat) (hu : rd cF H c = some u) (hc : ¬ szThirds l.length m.length u.length 1048576 < 0) : FnOk Try.prog 4 [.agg [a, b, c]] H (.bool true) (H) := by
  have hO : SoundO Try.prog (tab [(14, F_laws_szThirds), (16, F_laws_toThirds), (15, F_spec_ValidThirds), (17, F_impl_ValidThirds), (18, F_laws_eqThirds)]) := (tab_cons F_laws_szThirds_ok (tab_cons F_laws_toThirds_ok (tab_cons F_spec_ValidThirds_ok (tab_cons F_impl_ValidThirds_ok (tab_cons F_laws_eqThirds_ok (tab_nil _))))))
  refine FnOk_of hO Try.func4 Try.call4 rfl fun hws hin => awp_ok hO _ _ _ _ ?_
  have hbl := rd_bound hl
  have hwl := rd_within hl
  have hLl := fun L => rd_app hl L
  have hnl := rd_lenA hl Try.underlying22
  have hnLl := fun L => rd_lenA (hLl L) Try.underlying22
  have hil := fun i (hi : i < l.length) => rd_idx hl Try.underlying22 sz23 .i64 i hi
  have hiLl := fun L i (hi : i < l.length) => rd_idx (hLl L) Try.underlying22 sz23 .i64 i hi
  have hgl := fun i (hi : i < l.length) => rd_ldD hl Try.underlying23 rfl i hi
  have hgLl := fun L i (hi : i < l.length) => rd_ldD (hLl L) Try.underlying23 rfl i hi
  have hzl : 0 < l.length → indexAddrA Try.prog H 22 a (.int .i64 0) = some (AV.plc a 0) := fun h => hil 0 h
  have hzLl : ∀ L, 0 < l.length → indexAddrA Try.prog (H ++ L) 22 a (.int .i64 0) = some (AV.plc a 0) := fun L h => hiLl L 0 h
  have hkl := rd_cellOk hl
  have hkLl := fun L => rd_cellOk (hLl L)
  simp only [cF_en, cI_en, cB_en, cD_en, cU8_en] at hgl hgLl
  have hwLl := fun m => within_mono (Nat.le_add_right _ m) a hwl
  have hbm := rd_bound hm
  have hwm := rd_within hm
  have hLm := fun L => rd_app hm L
  have hnm := rd_lenA hm Try.underlying22
  have hnLm := fun L => rd_lenA (hLm L) Try.underlying22
  have him := fun i (hi : i < m.length) => rd_idx hm Try.underlying22 sz23 .i64 i hi
  have hiLm := fun L i (hi : i < m.length) => rd_idx (hLm L) Try.underlying22 sz23 .i64 i hi
  have hgm := fun i (hi : i < m.length) => rd_ldD hm Try.underlying23 rfl i hi
  have hgLm := fun L i (hi : i < m.length) => rd_ldD (hLm L) Try.underlying23 rfl i hi
  have hzm : 0 < m.length → indexAddrA Try.prog H 22 b (.int .i64 0) = some (AV.plc b 0) := fun h => him 0 h
  have hzLm : ∀ L, 0 < m.length → indexAddrA Try.prog (H ++ L) 22 b (.int .i64 0) = some (AV.plc b 0) := fun L h => hiLm L 0 h
  have hkm := rd_cellOk hm
  have hkLm := fun L => rd_cellOk (hLm L)
  simp only [cF_en, cI_en, cB_en, cD_en, cU8_en] at hgm hgLm
  have hwLm := fun m => within_mono (Nat.le_add_right _ m) b hwm
  have hbu := rd_bound hu
  have hwu := rd_within hu
  have hLu := fun L => rd_app hu L
  have hnu := rd_lenA hu Try.underlying22
  have hnLu := fun L => rd_lenA (hLu L) Try.underlying22
  have hiu := fun i (hi : i < u.length) => rd_idx hu Try.underlying22 sz23 .i64 i hi
  have hiLu := fun L i (hi : i < u.length) => rd_idx (hLu L) Try.underlying22 sz23 .i64 i hi
  have hgu := fun i (hi : i < u.length) => rd_ldD hu Try.underlying23 rfl i hi
  have hgLu := fun L i (hi : i < u.length) => rd_ldD (hLu L) Try.underlying23 rfl i hi
  have hzu : 0 < u.length → indexAddrA Try.prog H 22 c (.int .i64 0) = some (AV.plc c 0) := fun h => hiu 0 h
  have hzLu : ∀ L, 0 < u.length → indexAddrA Try.prog (H ++ L) 22 c (.int .i64 0) = some (AV.plc c 0) := fun L h => hiLu L 0 h
  have hku := rd_cellOk hu
  have hkLu := fun L => rd_cellOk (hLu L)
  simp only [cF_en, cI_en, cB_en, cD_en, cU8_en] at hgu hgLu
  have hwLu := fun m => within_mono (Nat.le_add_right _ m) c hwu
  have e1 := rd_slen hl
  have e2 := rd_slen hm
  have e3 := rd_slen hu
  have e1L := fun L => rd_slen (hLl L)
  have e2L := fun L => rd_slen (hLm L)
  have e3L := fun L => rd_slen (hLu L)
  simp [Try.ntmps4, F_laws_szThirds, F_laws_toThirds, F_spec_ValidThirds, F_impl_ValidThirds, F_laws_eqThirds, hzl, hzLl, hkl, hkLl, hwLl, hl, hLl, hnl, hnLl, hil, hiLl, hgl, hgLl, hwl, hzm, hzLm, hkm, hkLm, hwLm, hm, hLm, hnm, hnLm, him, hiLm, hgm, hgLm, hwm, hzu, hzLu, hku, hkLu, hwLu, hu, hLu, hnu, hnLu, hiu, hiLu, hgu, hgLu, hwu, newA, ldN, stN, putAt, Nat.add_assoc, hc, e1, e2, e3, e1L, e2L, e3L, hbl, hbm, hbu]
  refine drawn_ok mixed hO [(0, 2)] (by kernel_rfl) ?_
  simp [Try.ntmps4, F_laws_szThirds, F_laws_toThirds, F_spec_ValidThirds, F_impl_ValidThirds, F_laws_eqThirds, hzl, hzLl, hkl, hkLl, hwLl, hl, hLl, hnl, hnLl, hil, hiLl, hgl, hgLl, hwl, hzm, hzLm, hkm, hkLm, hwLm, hm, hLm, hnm, hnLm, him, hiLm, hgm, hgLm, hwm, hzu, hzLu, hku, hkLu, hwLu, hu, hLu, hnu, hnLu, hiu, hiLu, hgu, hgLu, hwu, Nat.add_assoc, heavy, newA, ldN, stN, putAt, hbl, hbm, hbu]
  exact ret_same hws (by simp) (by simp)
def F_laws_FnExactValidThirds : List AV → Heap → Option (AV × Heap)
  | [.agg [a, b, c]], H => (rd cF H a).bind fun l => (rd cF H b).bind fun m => (rd cF H c).bind fun u => if ¬ szThirds l.length m.length u.length 1048576 < 0 then some (.bool true, H) else none
  | _, _ => none
theorem F_laws_FnExactValidThirds_ok : FunOk Try.prog 4 F_laws_FnExactValidThirds := by
  intro args H r H' h
  unfold F_laws_FnExactValidThirds at h
  split at h
  · obtain ⟨l, hl, h⟩ := Option.bind_eq_some_iff.1 h
    obtain ⟨m, hm, h⟩ := Option.bind_eq_some_iff.1 h
    obtain ⟨u, hu, h⟩ := Option.bind_eq_some_iff.1 h
    split at h
    · rename_i hc
      simp only [Option.some.injEq, Prod.mk.injEq] at h
      obtain ⟨rfl, rfl⟩ := h
      exact F_laws_FnExactValidThirds_fn _ _ _ _ _ hl _ hm _ hu hc
    · cases h
  · cases h

theorem validThirds_law (a b c : AV) (H : Heap) (ha : SlA cF H a) (hb : SlA cF H b) (hc : SlA cF H c) :
    FnOk Try.prog 4 [.agg [a, b, c]] H (.bool true) H := by
  obtain ⟨x, hx, h1⟩ := ha
  obtain ⟨y, hy, h2⟩ := hb
  obtain ⟨z, hz, h3⟩ := hc
  by_cases g : szThirds x y z 1048576 < 0
  · have hO : SoundO Try.prog (tab [(14, F_laws_szThirds)]) := tab_cons F_laws_szThirds_ok (tab_nil _)
    refine FnOk_of hO Try.func4 Try.call4 rfl fun hws hin => awp_ok hO _ _ _ _ ?_
    have k1 := slen_cellOk hx
    have k2 := slen_cellOk hy
    have k3 := slen_cellOk hz
    have e1 := fun L => slen_app hx L
    have e2 := fun L => slen_app hy L
    have e3 := fun L => slen_app hz L
    simp [Try.ntmps4, F_laws_szThirds, newA, ldN, k1, k2, k3, e1, e2, e3, g]
    exact ret_same hws (by simp) (by simp)
  · have f1 : (x : Int) ≤ 1048576 ∧ (y : Int) ≤ 1048576 ∧ (z : Int) ≤ 1048576 := by
      unfold szThirds at g
      have b1 := szF_le x 1048576 (by decide)
      have b2 := szF_le y (szF x 1048576) b1
      by_cases g1 : szF x 1048576 < 0
      · rw [if_pos g1] at g; omega
      · rw [if_neg g1] at g
        by_cases g2 : szF y (szF x 1048576) < 0
        · rw [if_pos g2] at g; omega
        · rw [if_neg g2] at g
          by_cases g3 : szF z (szF y (szF x 1048576)) < 0
          · rw [if_pos g3] at g; omega
          · have := szF_fit _ _ g1
            have := szF_fit _ _ g2
            have := szF_fit _ _ g3
            omega
    obtain ⟨l, hl, rfl⟩ := h1 (by unfold maxL; omega)
    obtain ⟨m, hm, rfl⟩ := h2 (by unfold maxL; omega)
    obtain ⟨u, hu, rfl⟩ := h3 (by unfold maxL; omega)
    exact F_laws_FnExactValidThirds_fn a b c H l hl m hm u hu g

end Go.Proofs.Ytbhmllcnfdndhaa.AM
