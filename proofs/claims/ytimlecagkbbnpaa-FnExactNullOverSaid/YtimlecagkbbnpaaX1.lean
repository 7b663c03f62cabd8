/- Functions: what they come to. -/
import Derived.Test.YtimlecagkbbnpaaX0
set_option maxRecDepth 100000
set_option maxHeartbeats 4000000
set_option linter.unusedSimpArgs false
set_option linter.unusedVariables false
namespace Go.Proofs.Ytimlecagkbbnpaa.AM
open Go.Proofs
/-! spec.NullOver -/
noncomputable def spec_NullOver_l2_T (v26 : Int) (v1157 : Int) (v1158 : Int) (v1160 : List (List Int)) (v1161 : List Nat) (v1162 : List Int) (v1163 : List (List Int)) (v1164 : List Nat) (s : Int × (List Int)) : Tree ((Int × (List Int)) ⊕ ((List Int))) :=
  (.br (decide (s.1 < (((v1162).length : Nat) : Int))) (
   (.grd (inb s.1 ((v1162).length)) <|
   (.grd (inb s.1 ((v1161).length)) <|
   (.grd (inb v1158 ((nget v1160 (nth v1161 (Int.toNat s.1))).length)) <|
   (.call (spec_l06Mod_g (IntKind.i64.wrap (0 - (nth (nget v1160 (nth v1161 (Int.toNat s.1))) (Int.toNat v1158)))) v26) fun v1166 =>
   (.grd (inb (nth v1162 (Int.toNat s.1)) ((s.2).length)) <|
   .leaf (.inl (IntKind.i64.wrap (s.1 + (1 : Int)), List.set s.2 (Int.toNat (nth v1162 (Int.toNat s.1))) v1166)))))))
  ) (
   .leaf (.inr s.2)
  ))

noncomputable def spec_NullOver_l2_g (v26 : Int) (v1157 : Int) (v1158 : Int) (v1160 : List (List Int)) (v1161 : List Nat) (v1162 : List Int) (v1163 : List (List Int)) (v1164 : List Nat) (s0 : Int × (List Int)) : Option ((List Int)) := whileM (fun s => (spec_NullOver_l2_T v26 v1157 v1158 v1160 v1161 v1162 v1163 v1164 s).run) s0
def spec_NullOver_l2_E (v23 : Int) (v24 : Int) (v25 : List Int) (v26 : Int) (v1157 : Int) (v1158 : Int) (v1160 : List (List Int)) (v1161 : List Nat) (v1162 : List Int) (v1163 : List (List Int)) (v1164 : List Nat) (s : Int × (List Int)) : Sd := ([tp,.int .i64 v26,.ptr 0 (0 : Nat) 0 (3 : Nat),tp,tp,tp,.nest 1 0 1 ((v1161).length),.own 2 0 ((v1162).length),tp,.nest 3 0 1 ((v1164).length),.int .i64 v1157,.int .i64 v1158,.own 4 0 ((s.2).length),.int .i64 s.1,tp,tp,tp,tp,tp,tp,tp,tp,tp,tp,tp,tp,tp,tp,tp,tp,tp,tp,tp,tp,tp,tp,tp,tp,tp,tp,tp,tp,tp,tp,tp,tp,tp,tp,tp,tp,tp,tp,tp,tp,tp,tp,tp,tp,tp,tp,tp,tp,tp,tp,tp,tp,tp,tp,tp,tp,tp,tp,tp,tp,tp,tp,tp,tp,tp,tp,tp], [.gen [.int .i64 v23, .int .i64 v24, .bslc (BR.root 0) (.i64 v25)] false 0, .nest [.sl (.i64 v1160) v1161] false 0, .row (.i64 v1162) 0, .nest [.sl (.i64 v1163) v1164] false 0, .row (.i64 s.2) 0])
def spec_NullOver_l2_X (v23 : Int) (v24 : Int) (v25 : List Int) (v26 : Int) (v1157 : Int) (v1158 : Int) (v1160 : List (List Int)) (v1161 : List Nat) (v1162 : List Int) (v1163 : List (List Int)) (v1164 : List Nat) (x : (List Int)) : Out := (.normal, [tp,.int .i64 v26,.ptr 0 (0 : Nat) 0 (3 : Nat),tp,tp,tp,.nest 1 0 1 ((v1161).length),.own 2 0 ((v1162).length),tp,.nest 3 0 1 ((v1164).length),.int .i64 v1157,.int .i64 v1158,.own 4 0 ((x).length),tp,tp,tp,tp,tp,tp,tp,tp,tp,tp,tp,tp,tp,tp,tp,tp,tp,tp,tp,tp,tp,tp,tp,tp,tp,tp,tp,tp,tp,tp,tp,tp,tp,tp,tp,tp,tp,tp,tp,tp,tp,tp,tp,tp,tp,tp,tp,tp,tp,tp,tp,tp,tp,tp,tp,tp,tp,tp,tp,tp,tp,tp,tp,tp,tp,tp,tp,tp], [.gen [.int .i64 v23, .int .i64 v24, .bslc (BR.root 0) (.i64 v25)] false 0, .nest [.sl (.i64 v1160) v1161] false 0, .row (.i64 v1162) 0, .nest [.sl (.i64 v1163) v1164] false 0, .row (.i64 x) 0])
def spec_NullOver_l2_kill : List Nat := KL true [1,2,3,2,1,5,67]
def spec_NullOver_l2_nx : Exit → List Nat
  | .exit 0 => KL true [9,1,71]
  | .exit 1 => KL true [1,2,3,2,1,3,69]
  | .exit 2 => KL true [1,2,3,2,1,4,68]
  | .ret => KL true [4,2,75]
  | _ => []
noncomputable def spec_NullOver_l0_T (v23 : Int) (v24 : Int) (v25 : List Int) (v26 : Int) (v1132 : List (List Int)) (v1133 : List Nat) (v1134 : List Int) (s : Int × Int × (List (List Int)) × (List Nat)) : Tree ((Int × Int × (List (List Int)) × (List Nat)) ⊕ ((List (List Int)) × (List Nat))) :=
  (.br (decide (s.2.1 < v24)) (
   (.br (decide (s.1 < (((v1134).length : Nat) : Int))) (
    (.grd (inb s.1 ((v1134).length)) <|
    (.br (decide (nth v1134 (Int.toNat s.1) = s.2.1)) (
     .leaf (.inl (IntKind.i64.wrap (s.1 + (1 : Int)), IntKind.i64.wrap (s.2.1 + (1 : Int)), s.2.2.1, s.2.2.2))
    ) (
     (.need (v24 = v24) <|
     (.grd (inb v24 (maxN + 1)) <|
     (.grd (inb s.2.1 (Int.toNat v24)) <|
     (.need (some (spec_NullOver_l2_E v23 v24 v25 v26 s.1 s.2.1 v1132 v1133 v1134 s.2.2.1 s.2.2.2 ((0 : Int), List.set (List.replicate (Int.toNat v24) (0 : Int)) (Int.toNat s.2.1) (1 : Int))) = some (spec_NullOver_l2_E v23 v24 v25 v26 s.1 s.2.1 v1132 v1133 v1134 s.2.2.1 s.2.2.2 ((0 : Int), List.set (List.replicate (Int.toNat v24) (0 : Int)) (Int.toNat s.2.1) (1 : Int)))) <|
     (.call (spec_NullOver_l2_g v26 s.1 s.2.1 v1132 v1133 v1134 s.2.2.1 s.2.2.2 ((0 : Int), List.set (List.replicate (Int.toNat v24) (0 : Int)) (Int.toNat s.2.1) (1 : Int))) fun v1167 =>
     (.grd (fits (((s.2.2.2).length) + (1 : Nat))) <|
     .leaf (.inl (s.1, IntKind.i64.wrap (s.2.1 + (1 : Int)), s.2.2.1 ++ ([v1167] : List (List Int)), s.2.2.2 ++ [s.2.2.1.length + 1]))))))))
    )))
   ) (
    (.need (v24 = v24) <|
    (.grd (inb v24 (maxN + 1)) <|
    (.grd (inb s.2.1 (Int.toNat v24)) <|
    (.need (some (spec_NullOver_l2_E v23 v24 v25 v26 s.1 s.2.1 v1132 v1133 v1134 s.2.2.1 s.2.2.2 ((0 : Int), List.set (List.replicate (Int.toNat v24) (0 : Int)) (Int.toNat s.2.1) (1 : Int))) = some (spec_NullOver_l2_E v23 v24 v25 v26 s.1 s.2.1 v1132 v1133 v1134 s.2.2.1 s.2.2.2 ((0 : Int), List.set (List.replicate (Int.toNat v24) (0 : Int)) (Int.toNat s.2.1) (1 : Int)))) <|
    (.call (spec_NullOver_l2_g v26 s.1 s.2.1 v1132 v1133 v1134 s.2.2.1 s.2.2.2 ((0 : Int), List.set (List.replicate (Int.toNat v24) (0 : Int)) (Int.toNat s.2.1) (1 : Int))) fun v1198 =>
    (.grd (fits (((s.2.2.2).length) + (1 : Nat))) <|
    .leaf (.inl (s.1, IntKind.i64.wrap (s.2.1 + (1 : Int)), s.2.2.1 ++ ([v1198] : List (List Int)), s.2.2.2 ++ [s.2.2.1.length + 1]))))))))
   ))
  ) (
   .leaf (.inr (s.2.2.1, s.2.2.2))
  ))

noncomputable def spec_NullOver_l0_g (v23 : Int) (v24 : Int) (v25 : List Int) (v26 : Int) (v1132 : List (List Int)) (v1133 : List Nat) (v1134 : List Int) (s0 : Int × Int × (List (List Int)) × (List Nat)) : Option ((List (List Int)) × (List Nat)) := whileM (fun s => (spec_NullOver_l0_T v23 v24 v25 v26 v1132 v1133 v1134 s).run) s0
def spec_NullOver_l0_E (v23 : Int) (v24 : Int) (v25 : List Int) (v26 : Int) (v1132 : List (List Int)) (v1133 : List Nat) (v1134 : List Int) (s : Int × Int × (List (List Int)) × (List Nat)) : Sd := ([tp,.int .i64 v26,.ptr 0 (0 : Nat) 0 (3 : Nat),tp,tp,tp,.nest 1 0 1 ((v1133).length),.own 2 0 ((v1134).length),tp,.nest 3 0 1 ((s.2.2.2).length),.int .i64 s.1,.int .i64 s.2.1,tp,tp,tp,tp,tp,tp,tp,tp,tp,tp,tp,tp,tp,tp,tp,tp,tp,tp,tp,tp,tp,tp,tp,tp,tp,tp,tp,tp,tp,tp,tp,tp,tp,tp,tp,tp,tp,tp,tp,tp,tp,tp,tp,tp,tp,tp,tp,tp,tp,tp,tp,tp,tp,tp,tp,tp,tp,tp,tp,tp,tp,tp,tp,tp,tp,tp,tp,tp,tp], [.gen [.int .i64 v23, .int .i64 v24, .bslc (BR.root 0) (.i64 v25)] false 0, .nest [.sl (.i64 v1132) v1133] false 0, .row (.i64 v1134) 0, .nest [.sl (.i64 s.2.2.1) s.2.2.2] false 0])
def spec_NullOver_l0_X (v23 : Int) (v24 : Int) (v25 : List Int) (v26 : Int) (v1132 : List (List Int)) (v1133 : List Nat) (v1134 : List Int) (x : (List (List Int)) × (List Nat)) : Out := (.normal, [tp,tp,tp,tp,tp,tp,tp,tp,tp,.nest 0 0 1 ((x.2).length),tp,tp,tp,tp,tp,tp,tp,tp,tp,tp,tp,tp,tp,tp,tp,tp,tp,tp,tp,tp,tp,tp,tp,tp,tp,tp,tp,tp,tp,tp,tp,tp,tp,tp,tp,tp,tp,tp,tp,tp,tp,tp,tp,tp,tp,tp,tp,tp,tp,tp,tp,tp,tp,tp,tp,tp,tp,tp,tp,tp,tp,tp,tp,tp,tp,tp,tp,tp,tp,tp,tp], [.nest [.sl (.i64 x.1) x.2] false 0])
def spec_NullOver_l0_kill : List Nat := KL true [1,2,3,2,1,3,69]
def spec_NullOver_l0_nx : Exit → List Nat
  | .exit 0 => KL true [9,1,71]
  | .ret => KL true [4,2,75]
  | _ => []
noncomputable def spec_NullOver_LO (v23 : Int) (v24 : Int) (v25 : List Int) (v26 : Int) : LOr := fun id e L =>
  match id with
  | 2 => .need (normA 0 spec_NullOver_l2_kill e L = some (spec_NullOver_l2_E v23 v24 v25 v26 (gI (vAt e 10)) (gI (vAt e 11)) (gPI L (vAt e 6) 0) (gX L (vAt e 6) 0) (gRI L (vAt e 7)) (gPI L (vAt e 9) 0) (gX L (vAt e 9) 0) ((gI (vAt e 13)), (gRI L (vAt e 12))))) (.call (spec_NullOver_l2_g v26 (gI (vAt e 10)) (gI (vAt e 11)) (gPI L (vAt e 6) 0) (gX L (vAt e 6) 0) (gRI L (vAt e 7)) (gPI L (vAt e 9) 0) (gX L (vAt e 9) 0) ((gI (vAt e 13)), (gRI L (vAt e 12)))) fun x => .leaf (spec_NullOver_l2_X v23 v24 v25 v26 (gI (vAt e 10)) (gI (vAt e 11)) (gPI L (vAt e 6) 0) (gX L (vAt e 6) 0) (gRI L (vAt e 7)) (gPI L (vAt e 9) 0) (gX L (vAt e 9) 0) x))
  | 0 => .need (normA 0 spec_NullOver_l0_kill e L = some (spec_NullOver_l0_E v23 v24 v25 v26 (gPI L (vAt e 6) 0) (gX L (vAt e 6) 0) (gRI L (vAt e 7)) ((gI (vAt e 10)), (gI (vAt e 11)), (gPI L (vAt e 9) 0), (gX L (vAt e 9) 0)))) (.call (spec_NullOver_l0_g v23 v24 v25 v26 (gPI L (vAt e 6) 0) (gX L (vAt e 6) 0) (gRI L (vAt e 7)) ((gI (vAt e 10)), (gI (vAt e 11)), (gPI L (vAt e 9) 0), (gX L (vAt e 9) 0))) fun x => .leaf (spec_NullOver_l0_X v23 v24 v25 v26 (gPI L (vAt e 6) 0) (gX L (vAt e 6) 0) (gRI L (vAt e 7)) x))
  | _ => .fail
noncomputable def spec_NullOver_tab : List (FuncId × DFn × Bool) := [(60, spec_l06Is_F, true), (61, spec_l06Prime_F, true), (62, spec_l06Over_F, true), (68, spec_l06Mod_F, true)]
theorem spec_NullOver_hO : OrcOk Try.prog (tabD spec_NullOver_tab) (tabM spec_NullOver_tab) := tabD_cons spec_l06Is_Fok (tabD_cons spec_l06Prime_Fok (tabD_cons spec_l06Over_Fok (tabD_cons spec_l06Mod_Fok (tabD_nil _))))
theorem spec_NullOver_l2_be (v23 : Int) (v24 : Int) (v25 : List Int) (v26 : Int) (v1157 : Int) (v1158 : Int) (v1160 : List (List Int)) (v1161 : List Nat) (v1162 : List Int) (v1163 : List (List Int)) (v1164 : List Nat) (s : Int × (List Int)) : bodyT TT (tabD spec_NullOver_tab) (tabM spec_NullOver_tab) (spec_NullOver_LO v23 v24 v25 v26) 0 spec_NullOver_l2_kill spec_NullOver_l2_nx (bodyOf Try.f26 2) 2 (spec_NullOver_l2_E v23 v24 v25 v26 v1157 v1158 v1160 v1161 v1162 v1163 v1164 s) = (spec_NullOver_l2_T v26 v1157 v1158 v1160 v1161 v1162 v1163 v1164 s).bind fun y => .leaf (outS (spec_NullOver_l2_E v23 v24 v25 v26 v1157 v1158 v1160 v1161 v1162 v1163 v1164) (spec_NullOver_l2_X v23 v24 v25 v26 v1157 v1158 v1160 v1161 v1162 v1163 v1164) y) := by kernel_rfl
theorem spec_NullOver_l2_ok (v23 : Int) (v24 : Int) (v25 : List Int) (v26 : Int) : LSound Try.prog 0 (spec_NullOver_LO v23 v24 v25 v26) 2 (bodyOf Try.f26 2) := by
  intro e L out h
  exact lo_ok (E := spec_NullOver_l2_E v23 v24 v25 v26 (gI (vAt e 10)) (gI (vAt e 11)) (gPI L (vAt e 6) 0) (gX L (vAt e 6) 0) (gRI L (vAt e 7)) (gPI L (vAt e 9) 0) (gX L (vAt e 9) 0)) (gT := spec_NullOver_l2_T v26 (gI (vAt e 10)) (gI (vAt e 11)) (gPI L (vAt e 6) 0) (gX L (vAt e 6) 0) (gRI L (vAt e 7)) (gPI L (vAt e 9) 0) (gX L (vAt e 9) 0)) (X := spec_NullOver_l2_X v23 v24 v25 v26 (gI (vAt e 10)) (gI (vAt e 11)) (gPI L (vAt e 6) 0) (gX L (vAt e 6) 0) (gRI L (vAt e 7)) (gPI L (vAt e 9) 0) (gX L (vAt e 9) 0)) (s0 := ((gI (vAt e 13)), (gRI L (vAt e 12)))) tok spec_NullOver_hO mixed (LoopsOk_eq (l := []) (by kernel_rfl) trivial) (spec_NullOver_l2_be v23 v24 v25 v26 (gI (vAt e 10)) (gI (vAt e 11)) (gPI L (vAt e 6) 0) (gX L (vAt e 6) 0) (gRI L (vAt e 7)) (gPI L (vAt e 9) 0) (gX L (vAt e 9) 0)) rfl (by intro x; rfl) h
theorem spec_NullOver_l0_be (v23 : Int) (v24 : Int) (v25 : List Int) (v26 : Int) (v1132 : List (List Int)) (v1133 : List Nat) (v1134 : List Int) (s : Int × Int × (List (List Int)) × (List Nat)) : bodyT TT (tabD spec_NullOver_tab) (tabM spec_NullOver_tab) (spec_NullOver_LO v23 v24 v25 v26) 0 spec_NullOver_l0_kill spec_NullOver_l0_nx (bodyOf Try.f26 0) 0 (spec_NullOver_l0_E v23 v24 v25 v26 v1132 v1133 v1134 s) = (spec_NullOver_l0_T v23 v24 v25 v26 v1132 v1133 v1134 s).bind fun y => .leaf (outS (spec_NullOver_l0_E v23 v24 v25 v26 v1132 v1133 v1134) (spec_NullOver_l0_X v23 v24 v25 v26 v1132 v1133 v1134) y) := by kernel_rfl
theorem spec_NullOver_l0_ok (v23 : Int) (v24 : Int) (v25 : List Int) (v26 : Int) : LSound Try.prog 0 (spec_NullOver_LO v23 v24 v25 v26) 0 (bodyOf Try.f26 0) := by
  intro e L out h
  exact lo_ok (E := spec_NullOver_l0_E v23 v24 v25 v26 (gPI L (vAt e 6) 0) (gX L (vAt e 6) 0) (gRI L (vAt e 7))) (gT := spec_NullOver_l0_T v23 v24 v25 v26 (gPI L (vAt e 6) 0) (gX L (vAt e 6) 0) (gRI L (vAt e 7))) (X := spec_NullOver_l0_X v23 v24 v25 v26 (gPI L (vAt e 6) 0) (gX L (vAt e 6) 0) (gRI L (vAt e 7))) (s0 := ((gI (vAt e 10)), (gI (vAt e 11)), (gPI L (vAt e 9) 0), (gX L (vAt e 9) 0))) tok spec_NullOver_hO mixed (LoopsOk_eq (l := [(2, bodyOf Try.f26 2)]) (by kernel_rfl) ⟨spec_NullOver_l2_ok v23 v24 v25 v26, trivial⟩) (spec_NullOver_l0_be v23 v24 v25 v26 (gPI L (vAt e 6) 0) (gX L (vAt e 6) 0) (gRI L (vAt e 7))) rfl (by intro x; rfl) h
noncomputable def spec_NullOver_T (v23 : Int) (v24 : Int) (v25 : List Int) (v26 : Int) : Tree ((Unit) ⊕ ((List (List Int)) × (List Nat))) :=
  (.call (spec_l06Is_g v23 v24 v25 (1000000 : Int)) fun v43 =>
  (.br (!v43) (
   .leaf (.inl ())
  ) (
   (.call (spec_l06Prime_g v26) fun v51 =>
   (.br (!v51) (
    .leaf (.inl ())
   ) (
    (.call (spec_l06Over_g v23 v24 v25 ([] : List Int) v26) fun v1005 =>
    (.need (some (spec_NullOver_l0_E v23 v24 v25 v26 v1005.2.1 v1005.2.2.1 v1005.2.2.2 ((0 : Int), (0 : Int), ([] : List (List Int)), ([] : List Nat))) = some (spec_NullOver_l0_E v23 v24 v25 v26 v1005.2.1 v1005.2.2.1 v1005.2.2.2 ((0 : Int), (0 : Int), ([] : List (List Int)), ([] : List Nat)))) <|
    (.call (spec_NullOver_l0_g v23 v24 v25 v26 v1005.2.1 v1005.2.2.1 v1005.2.2.2 ((0 : Int), (0 : Int), ([] : List (List Int)), ([] : List Nat))) fun v1199 =>
    .leaf (.inr (v1199.1, v1199.2)))))
   )))
  )))

noncomputable def spec_NullOver_g (v23 : Int) (v24 : Int) (v25 : List Int) (v26 : Int) : Option ((Unit) ⊕ ((List (List Int)) × (List Nat))) := (spec_NullOver_T v23 v24 v25 v26).run
def spec_NullOver_enc (v23 : Int) (v24 : Int) (v25 : List Int) (v26 : Int) (y : (Unit) ⊕ ((List (List Int)) × (List Nat))) : Rs := (match y with | .inl y => (.tup [.nilslc, .lit false], []) | .inr y => (.tup [.nest 0 0 1 ((y.2).length), .lit true], [.nest [.sl (.i64 y.1) y.2] false 0]))
theorem spec_NullOver_den (v23 : Int) (v24 : Int) (v25 : List Int) (v26 : Int) : (den TT (tabD spec_NullOver_tab) (tabM spec_NullOver_tab) (spec_NullOver_LO v23 v24 v25 v26) (codeOf Try.f26) ([.agg [.int .i64 v23, .int .i64 v24, .bslc (BR.root 0) (.i64 v25)], .int .i64 v26] ++ List.replicate (Try.f26.ntmps - ([.agg [.int .i64 v23, .int .i64 v24, .bslc (BR.root 0) (.i64 v25)], .int .i64 v26] : List DV).length) .undef) []).bind (retD TT Try.f26.results.toList 0) = (spec_NullOver_T v23 v24 v25 v26).bind fun y => .leaf (spec_NullOver_enc v23 v24 v25 v26 y) := by kernel_rfl
theorem spec_NullOver_fn (v23 : Int) (v24 : Int) (v25 : List Int) (v26 : Int) (F : Fr) (h0 : St F [] F.H0) (hA : DVs.Ok F [] [.agg [.int .i64 v23, .int .i64 v24, .bslc (BR.root 0) (.i64 v25)], .int .i64 v26]) {y : (Unit) ⊕ ((List (List Int)) × (List Nat))} (hy : spec_NullOver_g v23 v24 v25 v26 = some y) : ∃ F' H', Fwd 0 F F' [] (spec_NullOver_enc v23 v24 v25 v26 y).2 ∧ FnOk Try.prog 26 (DVs.av F [.agg [.int .i64 v23, .int .i64 v24, .bslc (BR.root 0) (.i64 v25)], .int .i64 v26]) F.H0 ((spec_NullOver_enc v23 v24 v25 v26 y).1.av F') H' ∧ St F' (spec_NullOver_enc v23 v24 v25 v26 y).2 H' ∧ (spec_NullOver_enc v23 v24 v25 v26 y).1.Ok F' (spec_NullOver_enc v23 v24 v25 v26 y).2 :=
  fn_fin tok spec_NullOver_hO mixed Try.func26 Try.call26 (by kernel_rfl) (LoopsOk_eq (l := [(0, bodyOf Try.f26 0)]) (by kernel_rfl) ⟨spec_NullOver_l0_ok v23 v24 v25 v26, trivial⟩) (spec_NullOver_den v23 v24 v25 v26) hy h0 hA
noncomputable def spec_NullOver_F : DFn := fun args L =>
  match args with
  | [.agg [.int .i64 v23, .int .i64 v24, a1], .int .i64 v26] =>
    optT (rowI64 L a1) fun v25 =>
    .call (spec_NullOver_g v23 v24 v25 v26) fun y => .sum y (fun y0 => .leaf (.tup [.nilslc, .lit false], L)) (fun z0 => .leaf (.tup [.nest (L.length + 0) 0 1 ((z0.2).length), .lit true], L ++ [.nest [.sl (.i64 z0.1) z0.2] false 0]))
  | _ => .fail
theorem spec_NullOver_Fok : COk Try.prog 26 spec_NullOver_F true := by
  intro F L H args r L' hs ha hr
  unfold spec_NullOver_F at hr
  split at hr
  · rename_i v23 v24 a1 v26
    obtain ⟨v25, hv25, hr⟩ := optT_run hr
    simp only [Tree.run] at hr
    obtain ⟨y, hy, hr⟩ := Option.bind_eq_some_iff.1 hr
    cases y with
    | inl y =>
      simp only [Tree.run, Option.some.injEq, Prod.mk.injEq] at hr
      obtain ⟨rfl, rfl⟩ := hr
      exact call_ok0 hs (fun k => (([a1.av F] : List AV)[k]?).getD .top) [.agg [.int .i64 v23, .int .i64 v24, a1], .int .i64 v26] [.agg [.int .i64 v23, .int .i64 v24, .bslc (BR.root 0) (.i64 v25)], .int .i64 v26] (fun F' h0 hi hρ => ⟨by simp [DVs.av, DV.av, BR.av, hρ], spec_NullOver_fn v23 v24 v25 v26 F' (st_nil hi) ⟨⟨trivial, trivial, bslc_ok hi (by rw [h0, hρ]; exact rowI64_ok hs (DVs.okAt (DVs.okAt ha 0 rfl) 2 rfl) hv25), trivial⟩, trivial, trivial⟩ hy⟩) rfl
    | inr y =>
      simp only [Tree.run, Option.some.injEq, Prod.mk.injEq] at hr
      obtain ⟨rfl, rfl⟩ := hr
      exact call_ok1 hs (fun k => (([a1.av F] : List AV)[k]?).getD .top) [.agg [.int .i64 v23, .int .i64 v24, a1], .int .i64 v26] [.agg [.int .i64 v23, .int .i64 v24, .bslc (BR.root 0) (.i64 v25)], .int .i64 v26] (fun F' h0 hi hρ => ⟨by simp [DVs.av, DV.av, BR.av, hρ], spec_NullOver_fn v23 v24 v25 v26 F' (st_nil hi) ⟨⟨trivial, trivial, bslc_ok hi (by rw [h0, hρ]; exact rowI64_ok hs (DVs.okAt (DVs.okAt ha 0 rfl) 2 rfl) hv25), trivial⟩, trivial, trivial⟩ hy⟩) rfl rfl
  · cases hr
/-! impl.inRange -/
noncomputable def impl_inRange_LO (v1215 : Int) (v1216 : Int) (v1217 : Int) : LOr := fun id e L =>
  match id with
  | _ => .fail
noncomputable def impl_inRange_tab : List (FuncId × DFn × Bool) := []
theorem impl_inRange_hO : OrcOk Try.prog (tabD impl_inRange_tab) (tabM impl_inRange_tab) := tabD_nil _
noncomputable def impl_inRange_T (v1215 : Int) (v1216 : Int) (v1217 : Int) : Tree (Bool) :=
  (.br (decide (v1216 ≤ v1215)) (
   .leaf (decide (v1215 ≤ v1217))
  ) (
   .leaf false
  ))

noncomputable def impl_inRange_g (v1215 : Int) (v1216 : Int) (v1217 : Int) : Option (Bool) := (impl_inRange_T v1215 v1216 v1217).run
def impl_inRange_enc (v1215 : Int) (v1216 : Int) (v1217 : Int) (y : Bool) : Rs := (.bool y, [])
theorem impl_inRange_den (v1215 : Int) (v1216 : Int) (v1217 : Int) : (den TT (tabD impl_inRange_tab) (tabM impl_inRange_tab) (impl_inRange_LO v1215 v1216 v1217) (codeOf Try.f89) ([.int .i64 v1215, .int .i64 v1216, .int .i64 v1217] ++ List.replicate (Try.f89.ntmps - ([.int .i64 v1215, .int .i64 v1216, .int .i64 v1217] : List DV).length) .undef) []).bind (retD TT Try.f89.results.toList 0) = (impl_inRange_T v1215 v1216 v1217).bind fun y => .leaf (impl_inRange_enc v1215 v1216 v1217 y) := by kernel_rfl
theorem impl_inRange_fn (v1215 : Int) (v1216 : Int) (v1217 : Int) (F : Fr) (h0 : St F [] F.H0) (hA : DVs.Ok F [] [.int .i64 v1215, .int .i64 v1216, .int .i64 v1217]) {y : Bool} (hy : impl_inRange_g v1215 v1216 v1217 = some y) : ∃ F' H', Fwd 0 F F' [] (impl_inRange_enc v1215 v1216 v1217 y).2 ∧ FnOk Try.prog 89 (DVs.av F [.int .i64 v1215, .int .i64 v1216, .int .i64 v1217]) F.H0 ((impl_inRange_enc v1215 v1216 v1217 y).1.av F') H' ∧ St F' (impl_inRange_enc v1215 v1216 v1217 y).2 H' ∧ (impl_inRange_enc v1215 v1216 v1217 y).1.Ok F' (impl_inRange_enc v1215 v1216 v1217 y).2 :=
  fn_fin tok impl_inRange_hO mixed Try.func89 Try.call89 (by kernel_rfl) (LoopsOk_eq (l := []) (by kernel_rfl) trivial) (impl_inRange_den v1215 v1216 v1217) hy h0 hA
def impl_inRange_v (v1215 : Int) (v1216 : Int) (v1217 : Int) : Bool :=
  if (decide (v1216 ≤ v1215)) = true then (
   decide (v1215 ≤ v1217)
  ) else (
   false
  )
theorem impl_inRange_tot (v1215 : Int) (v1216 : Int) (v1217 : Int) : impl_inRange_g v1215 v1216 v1217 = some (impl_inRange_v v1215 v1216 v1217) := by
  unfold impl_inRange_g impl_inRange_T impl_inRange_v
  simp only [Tree.run]
  repeat' (first | rfl | split)
noncomputable def impl_inRange_F : DFn := fun args L =>
  match args with
  | [.int .i64 v1215, .int .i64 v1216, .int .i64 v1217] =>
    .leaf (.bool (impl_inRange_v v1215 v1216 v1217), L)
  | _ => .fail
theorem impl_inRange_Fok : COk Try.prog 89 impl_inRange_F true := by
  intro F L H args r L' hs ha hr
  unfold impl_inRange_F at hr
  split at hr
  · rename_i v1215 v1216 v1217
    have hy := impl_inRange_tot v1215 v1216 v1217
    generalize impl_inRange_v v1215 v1216 v1217 = y at hy hr
    simp only [Tree.run, Option.some.injEq, Prod.mk.injEq] at hr
    obtain ⟨rfl, rfl⟩ := hr
    exact call_ok0 hs (fun k => (([] : List AV)[k]?).getD .top) [.int .i64 v1215, .int .i64 v1216, .int .i64 v1217] [.int .i64 v1215, .int .i64 v1216, .int .i64 v1217] (fun F' h0 hi hρ => ⟨by simp [DVs.av, DV.av, BR.av, hρ], impl_inRange_fn v1215 v1216 v1217 F' (st_nil hi) ⟨trivial, trivial, trivial, trivial⟩ hy⟩) rfl
  · cases hr
/-! impl.length[int64] -/
noncomputable def impl_lengthI_LO (v1218 : List Int) : LOr := fun id e L =>
  match id with
  | _ => .fail
noncomputable def impl_lengthI_tab : List (FuncId × DFn × Bool) := []
theorem impl_lengthI_hO : OrcOk Try.prog (tabD impl_lengthI_tab) (tabM impl_lengthI_tab) := tabD_nil _
noncomputable def impl_lengthI_T (v1218 : List Int) : Tree (Int) :=
  .leaf ((v1218.length : Nat) : Int)

noncomputable def impl_lengthI_g (v1218 : List Int) : Option (Int) := (impl_lengthI_T v1218).run
def impl_lengthI_enc (v1218 : List Int) (y : Int) : Rs := (.int .i64 y, [])
theorem impl_lengthI_den (v1218 : List Int) : (den TT (tabD impl_lengthI_tab) (tabM impl_lengthI_tab) (impl_lengthI_LO v1218) (codeOf Try.f65) ([.bslc (BR.root 0) (.i64 v1218)] ++ List.replicate (Try.f65.ntmps - ([.bslc (BR.root 0) (.i64 v1218)] : List DV).length) .undef) []).bind (retD TT Try.f65.results.toList 0) = (impl_lengthI_T v1218).bind fun y => .leaf (impl_lengthI_enc v1218 y) := by kernel_rfl
theorem impl_lengthI_fn (v1218 : List Int) (F : Fr) (h0 : St F [] F.H0) (hA : DVs.Ok F [] [.bslc (BR.root 0) (.i64 v1218)]) {y : Int} (hy : impl_lengthI_g v1218 = some y) : ∃ F' H', Fwd 0 F F' [] (impl_lengthI_enc v1218 y).2 ∧ FnOk Try.prog 65 (DVs.av F [.bslc (BR.root 0) (.i64 v1218)]) F.H0 ((impl_lengthI_enc v1218 y).1.av F') H' ∧ St F' (impl_lengthI_enc v1218 y).2 H' ∧ (impl_lengthI_enc v1218 y).1.Ok F' (impl_lengthI_enc v1218 y).2 :=
  fn_fin tok impl_lengthI_hO mixed Try.func65 Try.call65 (by kernel_rfl) (LoopsOk_eq (l := []) (by kernel_rfl) trivial) (impl_lengthI_den v1218) hy h0 hA
def impl_lengthI_v (v1218 : List Int) : Int :=
  ((v1218.length : Nat) : Int)
theorem impl_lengthI_tot (v1218 : List Int) : impl_lengthI_g v1218 = some (impl_lengthI_v v1218) := by
  unfold impl_lengthI_g impl_lengthI_T impl_lengthI_v
  simp only [Tree.run]
  repeat' (first | rfl | split)
noncomputable def impl_lengthI_F : DFn := fun args L =>
  match args with
  | [a1] =>
    optT (rowI64 L a1) fun v1218 =>
    .leaf (.int .i64 (impl_lengthI_v v1218), L)
  | _ => .fail
theorem impl_lengthI_Fok : COk Try.prog 65 impl_lengthI_F true := by
  intro F L H args r L' hs ha hr
  unfold impl_lengthI_F at hr
  split at hr
  · rename_i a1
    obtain ⟨v1218, hv1218, hr⟩ := optT_run hr
    have hy := impl_lengthI_tot v1218
    generalize impl_lengthI_v v1218 = y at hy hr
    simp only [Tree.run, Option.some.injEq, Prod.mk.injEq] at hr
    obtain ⟨rfl, rfl⟩ := hr
    exact call_ok0 hs (fun k => (([a1.av F] : List AV)[k]?).getD .top) [a1] [.bslc (BR.root 0) (.i64 v1218)] (fun F' h0 hi hρ => ⟨by simp [DVs.av, DV.av, BR.av, hρ], impl_lengthI_fn v1218 F' (st_nil hi) ⟨bslc_ok hi (by rw [h0, hρ]; exact rowI64_ok hs (DVs.okAt ha 0 rfl) hv1218), trivial⟩ hy⟩) rfl
  · cases hr
/-! impl.allIn$1 -/
noncomputable def impl_allIn_1_LO (v1229 : Int) (v1230 : Int) (v1231 : Int) : LOr := fun id e L =>
  match id with
  | _ => .fail
noncomputable def impl_allIn_1_tab : List (FuncId × DFn × Bool) := [(89, impl_inRange_F, true)]
theorem impl_allIn_1_hO : OrcOk Try.prog (tabD impl_allIn_1_tab) (tabM impl_allIn_1_tab) := tabD_cons impl_inRange_Fok (tabD_nil _)
noncomputable def impl_allIn_1_T (v1229 : Int) (v1230 : Int) (v1231 : Int) : Tree (Bool) :=
  .leaf (!(impl_inRange_v v1229 v1230 v1231))

noncomputable def impl_allIn_1_g (v1229 : Int) (v1230 : Int) (v1231 : Int) : Option (Bool) := (impl_allIn_1_T v1229 v1230 v1231).run
def impl_allIn_1_enc (v1229 : Int) (v1230 : Int) (v1231 : Int) (y : Bool) : Rs := (.bool y, [])
theorem impl_allIn_1_den (v1229 : Int) (v1230 : Int) (v1231 : Int) : (den TT (tabD impl_allIn_1_tab) (tabM impl_allIn_1_tab) (impl_allIn_1_LO v1229 v1230 v1231) (codeOf Try.f129) ([.int .i64 v1229, .bptr (BR.root 0) [.int .i64 v1230], .bptr (BR.root 1) [.int .i64 v1231]] ++ List.replicate (Try.f129.ntmps - ([.int .i64 v1229, .bptr (BR.root 0) [.int .i64 v1230], .bptr (BR.root 1) [.int .i64 v1231]] : List DV).length) .undef) []).bind (retD TT Try.f129.results.toList 0) = (impl_allIn_1_T v1229 v1230 v1231).bind fun y => .leaf (impl_allIn_1_enc v1229 v1230 v1231 y) := by kernel_rfl
theorem impl_allIn_1_fn (v1229 : Int) (v1230 : Int) (v1231 : Int) (F : Fr) (h0 : St F [] F.H0) (hA : DVs.Ok F [] [.int .i64 v1229, .bptr (BR.root 0) [.int .i64 v1230], .bptr (BR.root 1) [.int .i64 v1231]]) {y : Bool} (hy : impl_allIn_1_g v1229 v1230 v1231 = some y) : ∃ F' H', Fwd 0 F F' [] (impl_allIn_1_enc v1229 v1230 v1231 y).2 ∧ FnOk Try.prog 129 (DVs.av F [.int .i64 v1229, .bptr (BR.root 0) [.int .i64 v1230], .bptr (BR.root 1) [.int .i64 v1231]]) F.H0 ((impl_allIn_1_enc v1229 v1230 v1231 y).1.av F') H' ∧ St F' (impl_allIn_1_enc v1229 v1230 v1231 y).2 H' ∧ (impl_allIn_1_enc v1229 v1230 v1231 y).1.Ok F' (impl_allIn_1_enc v1229 v1230 v1231 y).2 :=
  fn_fin tok impl_allIn_1_hO mixed Try.func129 Try.call129 (by kernel_rfl) (LoopsOk_eq (l := []) (by kernel_rfl) trivial) (impl_allIn_1_den v1229 v1230 v1231) hy h0 hA
def impl_allIn_1_v (v1229 : Int) (v1230 : Int) (v1231 : Int) : Bool :=
  !(impl_inRange_v v1229 v1230 v1231)
theorem impl_allIn_1_tot (v1229 : Int) (v1230 : Int) (v1231 : Int) : impl_allIn_1_g v1229 v1230 v1231 = some (impl_allIn_1_v v1229 v1230 v1231) := by
  unfold impl_allIn_1_g impl_allIn_1_T impl_allIn_1_v
  simp only [Tree.run]
  repeat' (first | rfl | split)
noncomputable def impl_allIn_1_F : DFn := fun args L =>
  match args with
  | [.int .i64 v1229, a1, a2] =>
    optT (cellsOf L 1 a1) fun cs0 =>
    (match cs0 with
    | [.int .i64 v1230] =>
    optT (cellsOf L 1 a2) fun cs1 =>
    (match cs1 with
    | [.int .i64 v1231] =>
    .leaf (.bool (impl_allIn_1_v v1229 v1230 v1231), L)
    | _ => .fail)
    | _ => .fail)
  | _ => .fail
theorem impl_allIn_1_Fok : COk Try.prog 129 impl_allIn_1_F true := by
  intro F L H args r L' hs ha hr
  unfold impl_allIn_1_F at hr
  split at hr
  · rename_i v1229 a1 a2
    obtain ⟨cs0, hcp0, hr⟩ := optT_run hr
    split at hr
    · rename_i v1230
      obtain ⟨cs1, hcp1, hr⟩ := optT_run hr
      split at hr
      · rename_i v1231
        have hy := impl_allIn_1_tot v1229 v1230 v1231
        generalize impl_allIn_1_v v1229 v1230 v1231 = y at hy hr
        simp only [Tree.run, Option.some.injEq, Prod.mk.injEq] at hr
        obtain ⟨rfl, rfl⟩ := hr
        exact call_ok0 hs (fun k => (([a1.av F, a2.av F] : List AV)[k]?).getD .top) [.int .i64 v1229, a1, a2] [.int .i64 v1229, .bptr (BR.root 0) [.int .i64 v1230], .bptr (BR.root 1) [.int .i64 v1231]] (fun F' h0 hi hρ => ⟨by simp [DVs.av, DV.av, BR.av, hρ], impl_allIn_1_fn v1229 v1230 v1231 F' (st_nil hi) ⟨trivial, bptr_ok hi (by rw [h0]; simpa [DVs.av, DV.av, BR.av, hρ] using (cellsOf_ok hs (DVs.okAt ha 1 rfl) hcp0).1) ⟨trivial, trivial⟩, bptr_ok hi (by rw [h0]; simpa [DVs.av, DV.av, BR.av, hρ] using (cellsOf_ok hs (DVs.okAt ha 2 rfl) hcp1).1) ⟨trivial, trivial⟩, trivial⟩ hy⟩) rfl
      · cases hr
    · cases hr
  · cases hr
/-! slices.IndexFunc[list of int64,int64] -/
noncomputable def slices_IndexFuncI_l0_T (v1225 : List Int) (v1226 : Int) (v1227 : Int) (s : Int) : Tree ((Int) ⊕ ((Int) ⊕ (Unit))) :=
  (.br (decide (s < ((v1225.length : Nat) : Int))) (
   (.grd (inb s v1225.length) <|
   (.br (impl_allIn_1_v (nth v1225 (Int.toNat s)) v1226 v1227) (
    .leaf (.inr (.inl s))
   ) (
    .leaf (.inl (IntKind.i64.wrap (s + (1 : Int))))
   )))
  ) (
   .leaf (.inr (.inr ()))
  ))

noncomputable def slices_IndexFuncI_l0_g (v1225 : List Int) (v1226 : Int) (v1227 : Int) (s0 : Int) : Option ((Int) ⊕ (Unit)) := whileM (fun s => (slices_IndexFuncI_l0_T v1225 v1226 v1227 s).run) s0
def slices_IndexFuncI_l0_E (v1225 : List Int) (v1226 : Int) (v1227 : Int) (s : Int) : Sd := ([.bslc (BR.root 0) (.i64 v1225),.fn 129 [.bptr (BR.root 1) [.int .i64 v1226], .bptr (BR.root 2) [.int .i64 v1227]],tp,tp,tp,tp,tp,.int .i64 ((v1225.length : Nat) : Int),.int .i64 s,tp,tp,tp,tp,tp,tp,tp,tp,tp,tp], [])
def slices_IndexFuncI_l0_X (v1225 : List Int) (v1226 : Int) (v1227 : Int) (x : (Int) ⊕ (Unit)) : Out := (match x with | .inl x => (.ret, [tp,tp,tp,tp,.int .i64 x,tp,tp,tp,tp,tp,tp,tp,tp,tp,tp,tp,tp,tp,tp], []) | .inr x => (.normal, [tp,tp,tp,tp,tp,tp,tp,tp,tp,tp,tp,tp,tp,tp,tp,tp,tp,tp,tp], []))
def slices_IndexFuncI_l0_kill : List Nat := KL true [0,2,5,2,10]
def slices_IndexFuncI_l0_nx : Exit → List Nat
  | .exit 0 => KL true [19]
  | .ret => KL true [4,1,14]
  | _ => []
noncomputable def slices_IndexFuncI_LO (v1225 : List Int) (v1226 : Int) (v1227 : Int) : LOr := fun id e L =>
  match id with
  | 0 => .need (normA 0 slices_IndexFuncI_l0_kill e L = some (slices_IndexFuncI_l0_E v1225 v1226 v1227 (gI (vAt e 8)))) (.call (slices_IndexFuncI_l0_g v1225 v1226 v1227 (gI (vAt e 8))) fun x => .sum x (fun b0 => .leaf (slices_IndexFuncI_l0_X v1225 v1226 v1227 (.inl b0))) (fun c0 => .leaf (slices_IndexFuncI_l0_X v1225 v1226 v1227 (.inr c0))))
  | _ => .fail
noncomputable def slices_IndexFuncI_tab : List (FuncId × DFn × Bool) := [(129, impl_allIn_1_F, true)]
theorem slices_IndexFuncI_hO : OrcOk Try.prog (tabD slices_IndexFuncI_tab) (tabM slices_IndexFuncI_tab) := tabD_cons impl_allIn_1_Fok (tabD_nil _)
theorem slices_IndexFuncI_l0_be (v1225 : List Int) (v1226 : Int) (v1227 : Int) (s : Int) : bodyT TT (tabD slices_IndexFuncI_tab) (tabM slices_IndexFuncI_tab) (slices_IndexFuncI_LO v1225 v1226 v1227) 0 slices_IndexFuncI_l0_kill slices_IndexFuncI_l0_nx (bodyOf Try.f157 0) 0 (slices_IndexFuncI_l0_E v1225 v1226 v1227 s) = (slices_IndexFuncI_l0_T v1225 v1226 v1227 s).bind fun y => .leaf (outS (slices_IndexFuncI_l0_E v1225 v1226 v1227) (slices_IndexFuncI_l0_X v1225 v1226 v1227) y) := by kernel_rfl
theorem slices_IndexFuncI_l0_ok (v1225 : List Int) (v1226 : Int) (v1227 : Int) : LSound Try.prog 0 (slices_IndexFuncI_LO v1225 v1226 v1227) 0 (bodyOf Try.f157 0) := by
  intro e L out h
  exact lo_ok (E := slices_IndexFuncI_l0_E v1225 v1226 v1227) (gT := slices_IndexFuncI_l0_T v1225 v1226 v1227) (X := slices_IndexFuncI_l0_X v1225 v1226 v1227) (s0 := (gI (vAt e 8))) tok slices_IndexFuncI_hO mixed (LoopsOk_eq (l := []) (by kernel_rfl) trivial) (slices_IndexFuncI_l0_be v1225 v1226 v1227) rfl (by intro x; (cases x with | inl b => rfl | inr x => exact rfl)) h
noncomputable def slices_IndexFuncI_T (v1225 : List Int) (v1226 : Int) (v1227 : Int) : Tree (Int) :=
  (.need (some (slices_IndexFuncI_l0_E v1225 v1226 v1227 (0 : Int)) = some (slices_IndexFuncI_l0_E v1225 v1226 v1227 (0 : Int))) <|
  (.call (slices_IndexFuncI_l0_g v1225 v1226 v1227 (0 : Int)) fun v1234 =>
  (.sum v1234 (fun v1235 =>
   .leaf v1235
  ) (fun v1236 =>
   .leaf (-1 : Int)
  ))))

noncomputable def slices_IndexFuncI_g (v1225 : List Int) (v1226 : Int) (v1227 : Int) : Option (Int) := (slices_IndexFuncI_T v1225 v1226 v1227).run
def slices_IndexFuncI_enc (v1225 : List Int) (v1226 : Int) (v1227 : Int) (y : Int) : Rs := (.int .i64 y, [])
theorem slices_IndexFuncI_den (v1225 : List Int) (v1226 : Int) (v1227 : Int) : (den TT (tabD slices_IndexFuncI_tab) (tabM slices_IndexFuncI_tab) (slices_IndexFuncI_LO v1225 v1226 v1227) (codeOf Try.f157) ([.bslc (BR.root 0) (.i64 v1225), .fn 129 [.bptr (BR.root 1) [.int .i64 v1226], .bptr (BR.root 2) [.int .i64 v1227]]] ++ List.replicate (Try.f157.ntmps - ([.bslc (BR.root 0) (.i64 v1225), .fn 129 [.bptr (BR.root 1) [.int .i64 v1226], .bptr (BR.root 2) [.int .i64 v1227]]] : List DV).length) .undef) []).bind (retD TT Try.f157.results.toList 0) = (slices_IndexFuncI_T v1225 v1226 v1227).bind fun y => .leaf (slices_IndexFuncI_enc v1225 v1226 v1227 y) := by kernel_rfl
theorem slices_IndexFuncI_fn (v1225 : List Int) (v1226 : Int) (v1227 : Int) (F : Fr) (h0 : St F [] F.H0) (hA : DVs.Ok F [] [.bslc (BR.root 0) (.i64 v1225), .fn 129 [.bptr (BR.root 1) [.int .i64 v1226], .bptr (BR.root 2) [.int .i64 v1227]]]) {y : Int} (hy : slices_IndexFuncI_g v1225 v1226 v1227 = some y) : ∃ F' H', Fwd 0 F F' [] (slices_IndexFuncI_enc v1225 v1226 v1227 y).2 ∧ FnOk Try.prog 157 (DVs.av F [.bslc (BR.root 0) (.i64 v1225), .fn 129 [.bptr (BR.root 1) [.int .i64 v1226], .bptr (BR.root 2) [.int .i64 v1227]]]) F.H0 ((slices_IndexFuncI_enc v1225 v1226 v1227 y).1.av F') H' ∧ St F' (slices_IndexFuncI_enc v1225 v1226 v1227 y).2 H' ∧ (slices_IndexFuncI_enc v1225 v1226 v1227 y).1.Ok F' (slices_IndexFuncI_enc v1225 v1226 v1227 y).2 :=
  fn_fin tok slices_IndexFuncI_hO mixed Try.func157 Try.call157 (by kernel_rfl) (LoopsOk_eq (l := [(0, bodyOf Try.f157 0)]) (by kernel_rfl) ⟨slices_IndexFuncI_l0_ok v1225 v1226 v1227, trivial⟩) (slices_IndexFuncI_den v1225 v1226 v1227) hy h0 hA
noncomputable def slices_IndexFuncI_F : DFn := fun args L =>
  match args with
  | [a1, .fn 129 [a2, a3]] =>
    optT (rowI64 L a1) fun v1225 =>
    optT (cellsOf L 1 a2) fun cs1 =>
    (match cs1 with
    | [.int .i64 v1226] =>
    optT (cellsOf L 1 a3) fun cs2 =>
    (match cs2 with
    | [.int .i64 v1227] =>
    .call (slices_IndexFuncI_g v1225 v1226 v1227) fun y => .leaf (.int .i64 y, L)
    | _ => .fail)
    | _ => .fail)
  | _ => .fail
theorem slices_IndexFuncI_Fok : COk Try.prog 157 slices_IndexFuncI_F true := by
  intro F L H args r L' hs ha hr
  unfold slices_IndexFuncI_F at hr
  split at hr
  · rename_i a1 a2 a3
    obtain ⟨v1225, hv1225, hr⟩ := optT_run hr
    obtain ⟨cs1, hcp1, hr⟩ := optT_run hr
    split at hr
    · rename_i v1226
      obtain ⟨cs2, hcp2, hr⟩ := optT_run hr
      split at hr
      · rename_i v1227
        simp only [Tree.run] at hr
        obtain ⟨y, hy, hr⟩ := Option.bind_eq_some_iff.1 hr
        simp only [Tree.run, Option.some.injEq, Prod.mk.injEq] at hr
        obtain ⟨rfl, rfl⟩ := hr
        exact call_ok0 hs (fun k => (([a1.av F, a2.av F, a3.av F] : List AV)[k]?).getD .top) [a1, .fn 129 [a2, a3]] [.bslc (BR.root 0) (.i64 v1225), .fn 129 [.bptr (BR.root 1) [.int .i64 v1226], .bptr (BR.root 2) [.int .i64 v1227]]] (fun F' h0 hi hρ => ⟨by simp [DVs.av, DV.av, BR.av, hρ], slices_IndexFuncI_fn v1225 v1226 v1227 F' (st_nil hi) ⟨bslc_ok hi (by rw [h0, hρ]; exact rowI64_ok hs (DVs.okAt ha 0 rfl) hv1225), ⟨bptr_ok hi (by rw [h0]; simpa [DVs.av, DV.av, BR.av, hρ] using (cellsOf_ok hs (DVs.okAt (DVs.okAt ha 1 rfl) 0 rfl) hcp1).1) ⟨trivial, trivial⟩, bptr_ok hi (by rw [h0]; simpa [DVs.av, DV.av, BR.av, hρ] using (cellsOf_ok hs (DVs.okAt (DVs.okAt ha 1 rfl) 1 rfl) hcp2).1) ⟨trivial, trivial⟩, trivial⟩, trivial⟩ hy⟩) rfl
      · cases hr
    · cases hr
  · cases hr
/-! slices.ContainsFunc[list of int64,int64] -/
noncomputable def slices_ContainsFuncI_LO (v1222 : List Int) (v1223 : Int) (v1224 : Int) : LOr := fun id e L =>
  match id with
  | _ => .fail
noncomputable def slices_ContainsFuncI_tab : List (FuncId × DFn × Bool) := [(157, slices_IndexFuncI_F, true)]
theorem slices_ContainsFuncI_hO : OrcOk Try.prog (tabD slices_ContainsFuncI_tab) (tabM slices_ContainsFuncI_tab) := tabD_cons slices_IndexFuncI_Fok (tabD_nil _)
noncomputable def slices_ContainsFuncI_T (v1222 : List Int) (v1223 : Int) (v1224 : Int) : Tree (Bool) :=
  (.call (slices_IndexFuncI_g v1222 v1223 v1224) fun v1237 =>
  .leaf (decide ((0 : Int) ≤ v1237)))

noncomputable def slices_ContainsFuncI_g (v1222 : List Int) (v1223 : Int) (v1224 : Int) : Option (Bool) := (slices_ContainsFuncI_T v1222 v1223 v1224).run
def slices_ContainsFuncI_enc (v1222 : List Int) (v1223 : Int) (v1224 : Int) (y : Bool) : Rs := (.bool y, [])
theorem slices_ContainsFuncI_den (v1222 : List Int) (v1223 : Int) (v1224 : Int) : (den TT (tabD slices_ContainsFuncI_tab) (tabM slices_ContainsFuncI_tab) (slices_ContainsFuncI_LO v1222 v1223 v1224) (codeOf Try.f128) ([.bslc (BR.root 0) (.i64 v1222), .fn 129 [.bptr (BR.root 1) [.int .i64 v1223], .bptr (BR.root 2) [.int .i64 v1224]]] ++ List.replicate (Try.f128.ntmps - ([.bslc (BR.root 0) (.i64 v1222), .fn 129 [.bptr (BR.root 1) [.int .i64 v1223], .bptr (BR.root 2) [.int .i64 v1224]]] : List DV).length) .undef) []).bind (retD TT Try.f128.results.toList 0) = (slices_ContainsFuncI_T v1222 v1223 v1224).bind fun y => .leaf (slices_ContainsFuncI_enc v1222 v1223 v1224 y) := by kernel_rfl
theorem slices_ContainsFuncI_fn (v1222 : List Int) (v1223 : Int) (v1224 : Int) (F : Fr) (h0 : St F [] F.H0) (hA : DVs.Ok F [] [.bslc (BR.root 0) (.i64 v1222), .fn 129 [.bptr (BR.root 1) [.int .i64 v1223], .bptr (BR.root 2) [.int .i64 v1224]]]) {y : Bool} (hy : slices_ContainsFuncI_g v1222 v1223 v1224 = some y) : ∃ F' H', Fwd 0 F F' [] (slices_ContainsFuncI_enc v1222 v1223 v1224 y).2 ∧ FnOk Try.prog 128 (DVs.av F [.bslc (BR.root 0) (.i64 v1222), .fn 129 [.bptr (BR.root 1) [.int .i64 v1223], .bptr (BR.root 2) [.int .i64 v1224]]]) F.H0 ((slices_ContainsFuncI_enc v1222 v1223 v1224 y).1.av F') H' ∧ St F' (slices_ContainsFuncI_enc v1222 v1223 v1224 y).2 H' ∧ (slices_ContainsFuncI_enc v1222 v1223 v1224 y).1.Ok F' (slices_ContainsFuncI_enc v1222 v1223 v1224 y).2 :=
  fn_fin tok slices_ContainsFuncI_hO mixed Try.func128 Try.call128 (by kernel_rfl) (LoopsOk_eq (l := []) (by kernel_rfl) trivial) (slices_ContainsFuncI_den v1222 v1223 v1224) hy h0 hA
noncomputable def slices_ContainsFuncI_F : DFn := fun args L =>
  match args with
  | [a1, .fn 129 [a2, a3]] =>
    optT (rowI64 L a1) fun v1222 =>
    optT (cellsOf L 1 a2) fun cs1 =>
    (match cs1 with
    | [.int .i64 v1223] =>
    optT (cellsOf L 1 a3) fun cs2 =>
    (match cs2 with
    | [.int .i64 v1224] =>
    .call (slices_ContainsFuncI_g v1222 v1223 v1224) fun y => .leaf (.bool y, L)
    | _ => .fail)
    | _ => .fail)
  | _ => .fail
theorem slices_ContainsFuncI_Fok : COk Try.prog 128 slices_ContainsFuncI_F true := by
  intro F L H args r L' hs ha hr
  unfold slices_ContainsFuncI_F at hr
  split at hr
  · rename_i a1 a2 a3
    obtain ⟨v1222, hv1222, hr⟩ := optT_run hr
    obtain ⟨cs1, hcp1, hr⟩ := optT_run hr
    split at hr
    · rename_i v1223
      obtain ⟨cs2, hcp2, hr⟩ := optT_run hr
      split at hr
      · rename_i v1224
        simp only [Tree.run] at hr
        obtain ⟨y, hy, hr⟩ := Option.bind_eq_some_iff.1 hr
        simp only [Tree.run, Option.some.injEq, Prod.mk.injEq] at hr
        obtain ⟨rfl, rfl⟩ := hr
        exact call_ok0 hs (fun k => (([a1.av F, a2.av F, a3.av F] : List AV)[k]?).getD .top) [a1, .fn 129 [a2, a3]] [.bslc (BR.root 0) (.i64 v1222), .fn 129 [.bptr (BR.root 1) [.int .i64 v1223], .bptr (BR.root 2) [.int .i64 v1224]]] (fun F' h0 hi hρ => ⟨by simp [DVs.av, DV.av, BR.av, hρ], slices_ContainsFuncI_fn v1222 v1223 v1224 F' (st_nil hi) ⟨bslc_ok hi (by rw [h0, hρ]; exact rowI64_ok hs (DVs.okAt ha 0 rfl) hv1222), ⟨bptr_ok hi (by rw [h0]; simpa [DVs.av, DV.av, BR.av, hρ] using (cellsOf_ok hs (DVs.okAt (DVs.okAt ha 1 rfl) 0 rfl) hcp1).1) ⟨trivial, trivial⟩, bptr_ok hi (by rw [h0]; simpa [DVs.av, DV.av, BR.av, hρ] using (cellsOf_ok hs (DVs.okAt (DVs.okAt ha 1 rfl) 1 rfl) hcp2).1) ⟨trivial, trivial⟩, trivial⟩, trivial⟩ hy⟩) rfl
      · cases hr
    · cases hr
  · cases hr
/-! impl.allIn -/
noncomputable def impl_allIn_LO (v1219 : List Int) (v1220 : Int) (v1221 : Int) : LOr := fun id e L =>
  match id with
  | _ => .fail
noncomputable def impl_allIn_tab : List (FuncId × DFn × Bool) := [(128, slices_ContainsFuncI_F, true)]
theorem impl_allIn_hO : OrcOk Try.prog (tabD impl_allIn_tab) (tabM impl_allIn_tab) := tabD_cons slices_ContainsFuncI_Fok (tabD_nil _)
noncomputable def impl_allIn_T (v1219 : List Int) (v1220 : Int) (v1221 : Int) : Tree (Bool) :=
  (.call (slices_ContainsFuncI_g v1219 v1220 v1221) fun v1238 =>
  .leaf (!v1238))

noncomputable def impl_allIn_g (v1219 : List Int) (v1220 : Int) (v1221 : Int) : Option (Bool) := (impl_allIn_T v1219 v1220 v1221).run
def impl_allIn_enc (v1219 : List Int) (v1220 : Int) (v1221 : Int) (y : Bool) : Rs := (.bool y, [])
theorem impl_allIn_den (v1219 : List Int) (v1220 : Int) (v1221 : Int) : (den TT (tabD impl_allIn_tab) (tabM impl_allIn_tab) (impl_allIn_LO v1219 v1220 v1221) (codeOf Try.f67) ([.bslc (BR.root 0) (.i64 v1219), .int .i64 v1220, .int .i64 v1221] ++ List.replicate (Try.f67.ntmps - ([.bslc (BR.root 0) (.i64 v1219), .int .i64 v1220, .int .i64 v1221] : List DV).length) .undef) []).bind (retD TT Try.f67.results.toList 0) = (impl_allIn_T v1219 v1220 v1221).bind fun y => .leaf (impl_allIn_enc v1219 v1220 v1221 y) := by kernel_rfl
theorem impl_allIn_fn (v1219 : List Int) (v1220 : Int) (v1221 : Int) (F : Fr) (h0 : St F [] F.H0) (hA : DVs.Ok F [] [.bslc (BR.root 0) (.i64 v1219), .int .i64 v1220, .int .i64 v1221]) {y : Bool} (hy : impl_allIn_g v1219 v1220 v1221 = some y) : ∃ F' H', Fwd 0 F F' [] (impl_allIn_enc v1219 v1220 v1221 y).2 ∧ FnOk Try.prog 67 (DVs.av F [.bslc (BR.root 0) (.i64 v1219), .int .i64 v1220, .int .i64 v1221]) F.H0 ((impl_allIn_enc v1219 v1220 v1221 y).1.av F') H' ∧ St F' (impl_allIn_enc v1219 v1220 v1221 y).2 H' ∧ (impl_allIn_enc v1219 v1220 v1221 y).1.Ok F' (impl_allIn_enc v1219 v1220 v1221 y).2 :=
  fn_fin tok impl_allIn_hO mixed Try.func67 Try.call67 (by kernel_rfl) (LoopsOk_eq (l := []) (by kernel_rfl) trivial) (impl_allIn_den v1219 v1220 v1221) hy h0 hA
noncomputable def impl_allIn_F : DFn := fun args L =>
  match args with
  | [a1, .int .i64 v1220, .int .i64 v1221] =>
    optT (rowI64 L a1) fun v1219 =>
    .call (impl_allIn_g v1219 v1220 v1221) fun y => .leaf (.bool y, L)
  | _ => .fail
theorem impl_allIn_Fok : COk Try.prog 67 impl_allIn_F true := by
  intro F L H args r L' hs ha hr
  unfold impl_allIn_F at hr
  split at hr
  · rename_i a1 v1220 v1221
    obtain ⟨v1219, hv1219, hr⟩ := optT_run hr
    simp only [Tree.run] at hr
    obtain ⟨y, hy, hr⟩ := Option.bind_eq_some_iff.1 hr
    simp only [Tree.run, Option.some.injEq, Prod.mk.injEq] at hr
    obtain ⟨rfl, rfl⟩ := hr
    exact call_ok0 hs (fun k => (([a1.av F] : List AV)[k]?).getD .top) [a1, .int .i64 v1220, .int .i64 v1221] [.bslc (BR.root 0) (.i64 v1219), .int .i64 v1220, .int .i64 v1221] (fun F' h0 hi hρ => ⟨by simp [DVs.av, DV.av, BR.av, hρ], impl_allIn_fn v1219 v1220 v1221 F' (st_nil hi) ⟨bslc_ok hi (by rw [h0, hρ]; exact rowI64_ok hs (DVs.okAt ha 0 rfl) hv1219), trivial, trivial, trivial⟩ hy⟩) rfl
  · cases hr
/-! impl.isWhole -/
noncomputable def impl_isWhole_LO (v1211 : Int) (v1212 : Int) (v1213 : List Int) (v1214 : Int) : LOr := fun id e L =>
  match id with
  | _ => .fail
noncomputable def impl_isWhole_tab : List (FuncId × DFn × Bool) := [(89, impl_inRange_F, true), (65, impl_lengthI_F, true), (67, impl_allIn_F, true)]
theorem impl_isWhole_hO : OrcOk Try.prog (tabD impl_isWhole_tab) (tabM impl_isWhole_tab) := tabD_cons impl_inRange_Fok (tabD_cons impl_lengthI_Fok (tabD_cons impl_allIn_Fok (tabD_nil _)))
noncomputable def impl_isWhole_T (v1211 : Int) (v1212 : Int) (v1213 : List Int) (v1214 : Int) : Tree (Bool) :=
  (.br (impl_inRange_v v1211 (1 : Int) (6 : Int)) (
   (.br (impl_inRange_v v1212 (1 : Int) (6 : Int)) (
    (.br (decide ((impl_lengthI_v v1213) = IntKind.i64.wrap (v1211 * v1212))) (
     (.call (impl_allIn_g v1213 (IntKind.i64.wrap (0 - v1214)) v1214) fun v1239 =>
     .leaf v1239)
    ) (
     .leaf false
    ))
   ) (
    .leaf false
   ))
  ) (
   .leaf false
  ))

noncomputable def impl_isWhole_g (v1211 : Int) (v1212 : Int) (v1213 : List Int) (v1214 : Int) : Option (Bool) := (impl_isWhole_T v1211 v1212 v1213 v1214).run
def impl_isWhole_enc (v1211 : Int) (v1212 : Int) (v1213 : List Int) (v1214 : Int) (y : Bool) : Rs := (.bool y, [])
theorem impl_isWhole_den (v1211 : Int) (v1212 : Int) (v1213 : List Int) (v1214 : Int) : (den TT (tabD impl_isWhole_tab) (tabM impl_isWhole_tab) (impl_isWhole_LO v1211 v1212 v1213 v1214) (codeOf Try.f126) ([.agg [.int .i64 v1211, .int .i64 v1212, .bslc (BR.root 0) (.i64 v1213)], .int .i64 v1214] ++ List.replicate (Try.f126.ntmps - ([.agg [.int .i64 v1211, .int .i64 v1212, .bslc (BR.root 0) (.i64 v1213)], .int .i64 v1214] : List DV).length) .undef) []).bind (retD TT Try.f126.results.toList 0) = (impl_isWhole_T v1211 v1212 v1213 v1214).bind fun y => .leaf (impl_isWhole_enc v1211 v1212 v1213 v1214 y) := by kernel_rfl
theorem impl_isWhole_fn (v1211 : Int) (v1212 : Int) (v1213 : List Int) (v1214 : Int) (F : Fr) (h0 : St F [] F.H0) (hA : DVs.Ok F [] [.agg [.int .i64 v1211, .int .i64 v1212, .bslc (BR.root 0) (.i64 v1213)], .int .i64 v1214]) {y : Bool} (hy : impl_isWhole_g v1211 v1212 v1213 v1214 = some y) : ∃ F' H', Fwd 0 F F' [] (impl_isWhole_enc v1211 v1212 v1213 v1214 y).2 ∧ FnOk Try.prog 126 (DVs.av F [.agg [.int .i64 v1211, .int .i64 v1212, .bslc (BR.root 0) (.i64 v1213)], .int .i64 v1214]) F.H0 ((impl_isWhole_enc v1211 v1212 v1213 v1214 y).1.av F') H' ∧ St F' (impl_isWhole_enc v1211 v1212 v1213 v1214 y).2 H' ∧ (impl_isWhole_enc v1211 v1212 v1213 v1214 y).1.Ok F' (impl_isWhole_enc v1211 v1212 v1213 v1214 y).2 :=
  fn_fin tok impl_isWhole_hO mixed Try.func126 Try.call126 (by kernel_rfl) (LoopsOk_eq (l := []) (by kernel_rfl) trivial) (impl_isWhole_den v1211 v1212 v1213 v1214) hy h0 hA
noncomputable def impl_isWhole_F : DFn := fun args L =>
  match args with
  | [.agg [.int .i64 v1211, .int .i64 v1212, a1], .int .i64 v1214] =>
    optT (rowI64 L a1) fun v1213 =>
    .call (impl_isWhole_g v1211 v1212 v1213 v1214) fun y => .leaf (.bool y, L)
  | _ => .fail
theorem impl_isWhole_Fok : COk Try.prog 126 impl_isWhole_F true := by
  intro F L H args r L' hs ha hr
  unfold impl_isWhole_F at hr
  split at hr
  · rename_i v1211 v1212 a1 v1214
    obtain ⟨v1213, hv1213, hr⟩ := optT_run hr
    simp only [Tree.run] at hr
    obtain ⟨y, hy, hr⟩ := Option.bind_eq_some_iff.1 hr
    simp only [Tree.run, Option.some.injEq, Prod.mk.injEq] at hr
    obtain ⟨rfl, rfl⟩ := hr
    exact call_ok0 hs (fun k => (([a1.av F] : List AV)[k]?).getD .top) [.agg [.int .i64 v1211, .int .i64 v1212, a1], .int .i64 v1214] [.agg [.int .i64 v1211, .int .i64 v1212, .bslc (BR.root 0) (.i64 v1213)], .int .i64 v1214] (fun F' h0 hi hρ => ⟨by simp [DVs.av, DV.av, BR.av, hρ], impl_isWhole_fn v1211 v1212 v1213 v1214 F' (st_nil hi) ⟨⟨trivial, trivial, bslc_ok hi (by rw [h0, hρ]; exact rowI64_ok hs (DVs.okAt (DVs.okAt ha 0 rfl) 2 rfl) hv1213), trivial⟩, trivial, trivial⟩ hy⟩) rfl
  · cases hr
/-! impl.ValidWhole -/
noncomputable def impl_ValidWhole_LO (v1208 : Int) (v1209 : Int) (v1210 : List Int) : LOr := fun id e L =>
  match id with
  | _ => .fail
noncomputable def impl_ValidWhole_tab : List (FuncId × DFn × Bool) := [(126, impl_isWhole_F, true)]
theorem impl_ValidWhole_hO : OrcOk Try.prog (tabD impl_ValidWhole_tab) (tabM impl_ValidWhole_tab) := tabD_cons impl_isWhole_Fok (tabD_nil _)
noncomputable def impl_ValidWhole_T (v1208 : Int) (v1209 : Int) (v1210 : List Int) : Tree (Bool) :=
  (.call (impl_isWhole_g v1208 v1209 v1210 (1000000 : Int)) fun v1240 =>
  .leaf v1240)

noncomputable def impl_ValidWhole_g (v1208 : Int) (v1209 : Int) (v1210 : List Int) : Option (Bool) := (impl_ValidWhole_T v1208 v1209 v1210).run
def impl_ValidWhole_enc (v1208 : Int) (v1209 : Int) (v1210 : List Int) (y : Bool) : Rs := (.bool y, [])
theorem impl_ValidWhole_den (v1208 : Int) (v1209 : Int) (v1210 : List Int) : (den TT (tabD impl_ValidWhole_tab) (tabM impl_ValidWhole_tab) (impl_ValidWhole_LO v1208 v1209 v1210) (codeOf Try.f63) ([.agg [.int .i64 v1208, .int .i64 v1209, .bslc (BR.root 0) (.i64 v1210)]] ++ List.replicate (Try.f63.ntmps - ([.agg [.int .i64 v1208, .int .i64 v1209, .bslc (BR.root 0) (.i64 v1210)]] : List DV).length) .undef) []).bind (retD TT Try.f63.results.toList 0) = (impl_ValidWhole_T v1208 v1209 v1210).bind fun y => .leaf (impl_ValidWhole_enc v1208 v1209 v1210 y) := by kernel_rfl
theorem impl_ValidWhole_fn (v1208 : Int) (v1209 : Int) (v1210 : List Int) (F : Fr) (h0 : St F [] F.H0) (hA : DVs.Ok F [] [.agg [.int .i64 v1208, .int .i64 v1209, .bslc (BR.root 0) (.i64 v1210)]]) {y : Bool} (hy : impl_ValidWhole_g v1208 v1209 v1210 = some y) : ∃ F' H', Fwd 0 F F' [] (impl_ValidWhole_enc v1208 v1209 v1210 y).2 ∧ FnOk Try.prog 63 (DVs.av F [.agg [.int .i64 v1208, .int .i64 v1209, .bslc (BR.root 0) (.i64 v1210)]]) F.H0 ((impl_ValidWhole_enc v1208 v1209 v1210 y).1.av F') H' ∧ St F' (impl_ValidWhole_enc v1208 v1209 v1210 y).2 H' ∧ (impl_ValidWhole_enc v1208 v1209 v1210 y).1.Ok F' (impl_ValidWhole_enc v1208 v1209 v1210 y).2 :=
  fn_fin tok impl_ValidWhole_hO mixed Try.func63 Try.call63 (by kernel_rfl) (LoopsOk_eq (l := []) (by kernel_rfl) trivial) (impl_ValidWhole_den v1208 v1209 v1210) hy h0 hA
noncomputable def impl_ValidWhole_F : DFn := fun args L =>
  match args with
  | [.agg [.int .i64 v1208, .int .i64 v1209, a1]] =>
    optT (rowI64 L a1) fun v1210 =>
    .call (impl_ValidWhole_g v1208 v1209 v1210) fun y => .leaf (.bool y, L)
  | _ => .fail
theorem impl_ValidWhole_Fok : COk Try.prog 63 impl_ValidWhole_F true := by
  intro F L H args r L' hs ha hr
  unfold impl_ValidWhole_F at hr
  split at hr
  · rename_i v1208 v1209 a1
    obtain ⟨v1210, hv1210, hr⟩ := optT_run hr
    simp only [Tree.run] at hr
    obtain ⟨y, hy, hr⟩ := Option.bind_eq_some_iff.1 hr
    simp only [Tree.run, Option.some.injEq, Prod.mk.injEq] at hr
    obtain ⟨rfl, rfl⟩ := hr
    exact call_ok0 hs (fun k => (([a1.av F] : List AV)[k]?).getD .top) [.agg [.int .i64 v1208, .int .i64 v1209, a1]] [.agg [.int .i64 v1208, .int .i64 v1209, .bslc (BR.root 0) (.i64 v1210)]] (fun F' h0 hi hρ => ⟨by simp [DVs.av, DV.av, BR.av, hρ], impl_ValidWhole_fn v1208 v1209 v1210 F' (st_nil hi) ⟨⟨trivial, trivial, bslc_ok hi (by rw [h0, hρ]; exact rowI64_ok hs (DVs.okAt (DVs.okAt ha 0 rfl) 2 rfl) hv1210), trivial⟩, trivial⟩ hy⟩) rfl
  · cases hr
/-! impl.IsPrime -/
noncomputable def impl_IsPrime_l0_T (v1242 : Int) (s : Int) : Tree ((Int) ⊕ ((Unit) ⊕ (Unit))) :=
  (.br (decide (IntKind.i64.wrap (s * s) ≤ v1242)) (
   (.grd (!decide (s = 0)) <|
   (.br (decide (Int.tmod v1242 s = (0 : Int))) (
    .leaf (.inr (.inl ()))
   ) (
    .leaf (.inl (IntKind.i64.wrap (s + (1 : Int))))
   )))
  ) (
   .leaf (.inr (.inr ()))
  ))

noncomputable def impl_IsPrime_l0_g (v1242 : Int) (s0 : Int) : Option ((Unit) ⊕ (Unit)) := whileM (fun s => (impl_IsPrime_l0_T v1242 s).run) s0
def impl_IsPrime_l0_E (v1242 : Int) (s : Int) : Sd := ([.int .i64 v1242,tp,tp,.int .i64 s,tp,tp,tp,tp,tp,tp,tp,tp,tp,tp,tp,tp,tp,tp], [])
def impl_IsPrime_l0_X (v1242 : Int) (x : (Unit) ⊕ (Unit)) : Out := (match x with | .inl x => (.ret, [tp,tp,.lit false,tp,tp,tp,tp,tp,tp,tp,tp,tp,tp,tp,tp,tp,tp,tp], []) | .inr x => (.normal, [tp,tp,tp,tp,tp,tp,tp,tp,tp,tp,tp,tp,tp,tp,tp,tp,tp,tp], []))
def impl_IsPrime_l0_kill : List Nat := KL true [0,1,2,1,14]
def impl_IsPrime_l0_nx : Exit → List Nat
  | .exit 0 => KL true [18]
  | .ret => KL true [2,1,15]
  | _ => []
noncomputable def impl_IsPrime_LO (v1242 : Int) : LOr := fun id e L =>
  match id with
  | 0 => .need (normA 0 impl_IsPrime_l0_kill e L = some (impl_IsPrime_l0_E v1242 (gI (vAt e 3)))) (.call (impl_IsPrime_l0_g v1242 (gI (vAt e 3))) fun x => .sum x (fun b0 => .leaf (impl_IsPrime_l0_X v1242 (.inl b0))) (fun c0 => .leaf (impl_IsPrime_l0_X v1242 (.inr c0))))
  | _ => .fail
noncomputable def impl_IsPrime_tab : List (FuncId × DFn × Bool) := [(89, impl_inRange_F, true)]
theorem impl_IsPrime_hO : OrcOk Try.prog (tabD impl_IsPrime_tab) (tabM impl_IsPrime_tab) := tabD_cons impl_inRange_Fok (tabD_nil _)
theorem impl_IsPrime_l0_be (v1242 : Int) (s : Int) : bodyT TT (tabD impl_IsPrime_tab) (tabM impl_IsPrime_tab) (impl_IsPrime_LO v1242) 0 impl_IsPrime_l0_kill impl_IsPrime_l0_nx (bodyOf Try.f58 0) 0 (impl_IsPrime_l0_E v1242 s) = (impl_IsPrime_l0_T v1242 s).bind fun y => .leaf (outS (impl_IsPrime_l0_E v1242) (impl_IsPrime_l0_X v1242) y) := by kernel_rfl
theorem impl_IsPrime_l0_ok (v1242 : Int) : LSound Try.prog 0 (impl_IsPrime_LO v1242) 0 (bodyOf Try.f58 0) := by
  intro e L out h
  exact lo_ok (E := impl_IsPrime_l0_E v1242) (gT := impl_IsPrime_l0_T v1242) (X := impl_IsPrime_l0_X v1242) (s0 := (gI (vAt e 3))) tok impl_IsPrime_hO mixed (LoopsOk_eq (l := []) (by kernel_rfl) trivial) (impl_IsPrime_l0_be v1242) rfl (by intro x; (cases x with | inl b => rfl | inr x => exact rfl)) h
noncomputable def impl_IsPrime_T (v1242 : Int) : Tree (Bool) :=
  (.br (!(impl_inRange_v v1242 (2 : Int) (997 : Int))) (
   .leaf false
  ) (
   (.need (some (impl_IsPrime_l0_E v1242 (2 : Int)) = some (impl_IsPrime_l0_E v1242 (2 : Int))) <|
   (.call (impl_IsPrime_l0_g v1242 (2 : Int)) fun v1246 =>
   (.sum v1246 (fun v1247 =>
    .leaf false
   ) (fun v1248 =>
    .leaf true
   ))))
  ))

noncomputable def impl_IsPrime_g (v1242 : Int) : Option (Bool) := (impl_IsPrime_T v1242).run
def impl_IsPrime_enc (v1242 : Int) (y : Bool) : Rs := (.bool y, [])
theorem impl_IsPrime_den (v1242 : Int) : (den TT (tabD impl_IsPrime_tab) (tabM impl_IsPrime_tab) (impl_IsPrime_LO v1242) (codeOf Try.f58) ([.int .i64 v1242] ++ List.replicate (Try.f58.ntmps - ([.int .i64 v1242] : List DV).length) .undef) []).bind (retD TT Try.f58.results.toList 0) = (impl_IsPrime_T v1242).bind fun y => .leaf (impl_IsPrime_enc v1242 y) := by kernel_rfl
theorem impl_IsPrime_fn (v1242 : Int) (F : Fr) (h0 : St F [] F.H0) (hA : DVs.Ok F [] [.int .i64 v1242]) {y : Bool} (hy : impl_IsPrime_g v1242 = some y) : ∃ F' H', Fwd 0 F F' [] (impl_IsPrime_enc v1242 y).2 ∧ FnOk Try.prog 58 (DVs.av F [.int .i64 v1242]) F.H0 ((impl_IsPrime_enc v1242 y).1.av F') H' ∧ St F' (impl_IsPrime_enc v1242 y).2 H' ∧ (impl_IsPrime_enc v1242 y).1.Ok F' (impl_IsPrime_enc v1242 y).2 :=
  fn_fin tok impl_IsPrime_hO mixed Try.func58 Try.call58 (by kernel_rfl) (LoopsOk_eq (l := [(0, bodyOf Try.f58 0)]) (by kernel_rfl) ⟨impl_IsPrime_l0_ok v1242, trivial⟩) (impl_IsPrime_den v1242) hy h0 hA
noncomputable def impl_IsPrime_F : DFn := fun args L =>
  match args with
  | [.int .i64 v1242] =>
    .call (impl_IsPrime_g v1242) fun y => .leaf (.bool y, L)
  | _ => .fail
theorem impl_IsPrime_Fok : COk Try.prog 58 impl_IsPrime_F true := by
  intro F L H args r L' hs ha hr
  unfold impl_IsPrime_F at hr
  split at hr
  · rename_i v1242
    simp only [Tree.run] at hr
    obtain ⟨y, hy, hr⟩ := Option.bind_eq_some_iff.1 hr
    simp only [Tree.run, Option.some.injEq, Prod.mk.injEq] at hr
    obtain ⟨rfl, rfl⟩ := hr
    exact call_ok0 hs (fun k => (([] : List AV)[k]?).getD .top) [.int .i64 v1242] [.int .i64 v1242] (fun F' h0 hi hρ => ⟨by simp [DVs.av, DV.av, BR.av, hρ], impl_IsPrime_fn v1242 F' (st_nil hi) ⟨trivial, trivial⟩ hy⟩) rfl
  · cases hr
/-! slices.Clone[list of int64,int64] -/
noncomputable def slices_CloneI_LO (v1260 : List Int) : LOr := fun id e L =>
  match id with
  | _ => .fail
noncomputable def slices_CloneI_tab : List (FuncId × DFn × Bool) := []
theorem slices_CloneI_hO : OrcOk Try.prog (tabD slices_CloneI_tab) (tabM slices_CloneI_tab) := tabD_nil _
noncomputable def slices_CloneI_T (v1260 : List Int) : Tree (Unit) :=
  (.grd (decide (0 < v1260.length)) <|
  (.grd (fits (([] : List Int) ++ v1260).length) <|
  .leaf ()))

noncomputable def slices_CloneI_g (v1260 : List Int) : Option (Unit) := (slices_CloneI_T v1260).run
def slices_CloneI_enc (v1260 : List Int) (y : Unit) : Rs := (.own 0 0 ((([] : List Int) ++ v1260).length), [.row (.i64 (([] : List Int) ++ v1260)) 0])
theorem slices_CloneI_den (v1260 : List Int) : (den TT (tabD slices_CloneI_tab) (tabM slices_CloneI_tab) (slices_CloneI_LO v1260) (codeOf Try.f90) ([.bslc (BR.root 0) (.i64 v1260)] ++ List.replicate (Try.f90.ntmps - ([.bslc (BR.root 0) (.i64 v1260)] : List DV).length) .undef) []).bind (retD TT Try.f90.results.toList 0) = (slices_CloneI_T v1260).bind fun y => .leaf (slices_CloneI_enc v1260 y) := by kernel_rfl
theorem slices_CloneI_fn (v1260 : List Int) (F : Fr) (h0 : St F [] F.H0) (hA : DVs.Ok F [] [.bslc (BR.root 0) (.i64 v1260)]) {y : Unit} (hy : slices_CloneI_g v1260 = some y) : ∃ F' H', Fwd 0 F F' [] (slices_CloneI_enc v1260 y).2 ∧ FnOk Try.prog 90 (DVs.av F [.bslc (BR.root 0) (.i64 v1260)]) F.H0 ((slices_CloneI_enc v1260 y).1.av F') H' ∧ St F' (slices_CloneI_enc v1260 y).2 H' ∧ (slices_CloneI_enc v1260 y).1.Ok F' (slices_CloneI_enc v1260 y).2 :=
  fn_fin tok slices_CloneI_hO mixed Try.func90 Try.call90 (by kernel_rfl) (LoopsOk_eq (l := []) (by kernel_rfl) trivial) (slices_CloneI_den v1260) hy h0 hA
noncomputable def slices_CloneI_F : DFn := fun args L =>
  match args with
  | [a1] =>
    optT (rowI64 L a1) fun v1260 =>
    .call (slices_CloneI_g v1260) fun y => .leaf (.own (L.length + 0) 0 ((([] : List Int) ++ v1260).length), L ++ [.row (.i64 (([] : List Int) ++ v1260)) 0])
  | _ => .fail
theorem slices_CloneI_Fok : COk Try.prog 90 slices_CloneI_F true := by
  intro F L H args r L' hs ha hr
  unfold slices_CloneI_F at hr
  split at hr
  · rename_i a1
    obtain ⟨v1260, hv1260, hr⟩ := optT_run hr
    simp only [Tree.run] at hr
    obtain ⟨y, hy, hr⟩ := Option.bind_eq_some_iff.1 hr
    simp only [Tree.run, Option.some.injEq, Prod.mk.injEq] at hr
    obtain ⟨rfl, rfl⟩ := hr
    exact call_ok1 hs (fun k => (([a1.av F] : List AV)[k]?).getD .top) [a1] [.bslc (BR.root 0) (.i64 v1260)] (fun F' h0 hi hρ => ⟨by simp [DVs.av, DV.av, BR.av, hρ], slices_CloneI_fn v1260 F' (st_nil hi) ⟨bslc_ok hi (by rw [h0, hρ]; exact rowI64_ok hs (DVs.okAt ha 0 rfl) hv1260), trivial⟩ hy⟩) rfl rfl
  · cases hr
/-! (impl.Whole).row -/
noncomputable def impl_Whole_row_LO (v1256 : Int) (v1257 : Int) (v1258 : List Int) (v1259 : Int) : LOr := fun id e L =>
  match id with
  | _ => .fail
noncomputable def impl_Whole_row_tab : List (FuncId × DFn × Bool) := [(90, slices_CloneI_F, true)]
theorem impl_Whole_row_hO : OrcOk Try.prog (tabD impl_Whole_row_tab) (tabM impl_Whole_row_tab) := tabD_cons slices_CloneI_Fok (tabD_nil _)
noncomputable def impl_Whole_row_T (v1257 : Int) (v1258 : List Int) (v1259 : Int) : Tree (Unit) :=
  (.grd (sok (IntKind.i64.wrap (v1259 * v1257)) (IntKind.i64.wrap ((IntKind.i64.wrap (v1259 + (1 : Int))) * v1257)) v1258.length) <|
  (.call (slices_CloneI_g (AM.sub v1258 (IntKind.i64.wrap (v1259 * v1257)) (IntKind.i64.wrap ((IntKind.i64.wrap (v1259 + (1 : Int))) * v1257)))) fun v1261 =>
  .leaf ()))

noncomputable def impl_Whole_row_g (v1257 : Int) (v1258 : List Int) (v1259 : Int) : Option (Unit) := (impl_Whole_row_T v1257 v1258 v1259).run
def impl_Whole_row_enc (v1256 : Int) (v1257 : Int) (v1258 : List Int) (v1259 : Int) (y : Unit) : Rs := (.own 0 0 ((([] : List Int) ++ (AM.sub v1258 (IntKind.i64.wrap (v1259 * v1257)) (IntKind.i64.wrap ((IntKind.i64.wrap (v1259 + (1 : Int))) * v1257)))).length), [.row (.i64 (([] : List Int) ++ (AM.sub v1258 (IntKind.i64.wrap (v1259 * v1257)) (IntKind.i64.wrap ((IntKind.i64.wrap (v1259 + (1 : Int))) * v1257))))) 0])
theorem impl_Whole_row_den (v1256 : Int) (v1257 : Int) (v1258 : List Int) (v1259 : Int) : (den TT (tabD impl_Whole_row_tab) (tabM impl_Whole_row_tab) (impl_Whole_row_LO v1256 v1257 v1258 v1259) (codeOf Try.f127) ([.agg [.int .i64 v1256, .int .i64 v1257, .bslc (BR.root 0) (.i64 v1258)], .int .i64 v1259] ++ List.replicate (Try.f127.ntmps - ([.agg [.int .i64 v1256, .int .i64 v1257, .bslc (BR.root 0) (.i64 v1258)], .int .i64 v1259] : List DV).length) .undef) []).bind (retD TT Try.f127.results.toList 0) = (impl_Whole_row_T v1257 v1258 v1259).bind fun y => .leaf (impl_Whole_row_enc v1256 v1257 v1258 v1259 y) := by kernel_rfl
theorem impl_Whole_row_fn (v1256 : Int) (v1257 : Int) (v1258 : List Int) (v1259 : Int) (F : Fr) (h0 : St F [] F.H0) (hA : DVs.Ok F [] [.agg [.int .i64 v1256, .int .i64 v1257, .bslc (BR.root 0) (.i64 v1258)], .int .i64 v1259]) {y : Unit} (hy : impl_Whole_row_g v1257 v1258 v1259 = some y) : ∃ F' H', Fwd 0 F F' [] (impl_Whole_row_enc v1256 v1257 v1258 v1259 y).2 ∧ FnOk Try.prog 127 (DVs.av F [.agg [.int .i64 v1256, .int .i64 v1257, .bslc (BR.root 0) (.i64 v1258)], .int .i64 v1259]) F.H0 ((impl_Whole_row_enc v1256 v1257 v1258 v1259 y).1.av F') H' ∧ St F' (impl_Whole_row_enc v1256 v1257 v1258 v1259 y).2 H' ∧ (impl_Whole_row_enc v1256 v1257 v1258 v1259 y).1.Ok F' (impl_Whole_row_enc v1256 v1257 v1258 v1259 y).2 :=
  fn_fin tok impl_Whole_row_hO mixed Try.func127 Try.call127 (by kernel_rfl) (LoopsOk_eq (l := []) (by kernel_rfl) trivial) (impl_Whole_row_den v1256 v1257 v1258 v1259) hy h0 hA
noncomputable def impl_Whole_row_F : DFn := fun args L =>
  match args with
  | [.agg [.int .i64 v1256, .int .i64 v1257, a1], .int .i64 v1259] =>
    optT (rowI64 L a1) fun v1258 =>
    .call (impl_Whole_row_g v1257 v1258 v1259) fun y => .leaf (.own (L.length + 0) 0 ((([] : List Int) ++ (AM.sub v1258 (IntKind.i64.wrap (v1259 * v1257)) (IntKind.i64.wrap ((IntKind.i64.wrap (v1259 + (1 : Int))) * v1257)))).length), L ++ [.row (.i64 (([] : List Int) ++ (AM.sub v1258 (IntKind.i64.wrap (v1259 * v1257)) (IntKind.i64.wrap ((IntKind.i64.wrap (v1259 + (1 : Int))) * v1257))))) 0])
  | _ => .fail
theorem impl_Whole_row_Fok : COk Try.prog 127 impl_Whole_row_F true := by
  intro F L H args r L' hs ha hr
  unfold impl_Whole_row_F at hr
  split at hr
  · rename_i v1256 v1257 a1 v1259
    obtain ⟨v1258, hv1258, hr⟩ := optT_run hr
    simp only [Tree.run] at hr
    obtain ⟨y, hy, hr⟩ := Option.bind_eq_some_iff.1 hr
    simp only [Tree.run, Option.some.injEq, Prod.mk.injEq] at hr
    obtain ⟨rfl, rfl⟩ := hr
    exact call_ok1 hs (fun k => (([a1.av F] : List AV)[k]?).getD .top) [.agg [.int .i64 v1256, .int .i64 v1257, a1], .int .i64 v1259] [.agg [.int .i64 v1256, .int .i64 v1257, .bslc (BR.root 0) (.i64 v1258)], .int .i64 v1259] (fun F' h0 hi hρ => ⟨by simp [DVs.av, DV.av, BR.av, hρ], impl_Whole_row_fn v1256 v1257 v1258 v1259 F' (st_nil hi) ⟨⟨trivial, trivial, bslc_ok hi (by rw [h0, hρ]; exact rowI64_ok hs (DVs.okAt (DVs.okAt ha 0 rfl) 2 rfl) hv1258), trivial⟩, trivial, trivial⟩ hy⟩) rfl rfl
  · cases hr
/-! impl.rest -/
noncomputable def impl_rest_LO (v1267 : Int) (v1268 : Int) : LOr := fun id e L =>
  match id with
  | _ => .fail
noncomputable def impl_rest_tab : List (FuncId × DFn × Bool) := []
theorem impl_rest_hO : OrcOk Try.prog (tabD impl_rest_tab) (tabM impl_rest_tab) := tabD_nil _
noncomputable def impl_rest_T (v1267 : Int) (v1268 : Int) : Tree (Int) :=
  (.grd (!decide (v1268 = 0)) <|
  (.grd (!decide (v1268 = 0)) <|
  .leaf (Int.tmod (IntKind.i64.wrap ((Int.tmod v1267 v1268) + v1268)) v1268)))

noncomputable def impl_rest_g (v1267 : Int) (v1268 : Int) : Option (Int) := (impl_rest_T v1267 v1268).run
def impl_rest_enc (v1267 : Int) (v1268 : Int) (y : Int) : Rs := (.int .i64 y, [])
theorem impl_rest_den (v1267 : Int) (v1268 : Int) : (den TT (tabD impl_rest_tab) (tabM impl_rest_tab) (impl_rest_LO v1267 v1268) (codeOf Try.f70) ([.int .i64 v1267, .int .i64 v1268] ++ List.replicate (Try.f70.ntmps - ([.int .i64 v1267, .int .i64 v1268] : List DV).length) .undef) []).bind (retD TT Try.f70.results.toList 0) = (impl_rest_T v1267 v1268).bind fun y => .leaf (impl_rest_enc v1267 v1268 y) := by kernel_rfl
theorem impl_rest_fn (v1267 : Int) (v1268 : Int) (F : Fr) (h0 : St F [] F.H0) (hA : DVs.Ok F [] [.int .i64 v1267, .int .i64 v1268]) {y : Int} (hy : impl_rest_g v1267 v1268 = some y) : ∃ F' H', Fwd 0 F F' [] (impl_rest_enc v1267 v1268 y).2 ∧ FnOk Try.prog 70 (DVs.av F [.int .i64 v1267, .int .i64 v1268]) F.H0 ((impl_rest_enc v1267 v1268 y).1.av F') H' ∧ St F' (impl_rest_enc v1267 v1268 y).2 H' ∧ (impl_rest_enc v1267 v1268 y).1.Ok F' (impl_rest_enc v1267 v1268 y).2 :=
  fn_fin tok impl_rest_hO mixed Try.func70 Try.call70 (by kernel_rfl) (LoopsOk_eq (l := []) (by kernel_rfl) trivial) (impl_rest_den v1267 v1268) hy h0 hA
noncomputable def impl_rest_F : DFn := fun args L =>
  match args with
  | [.int .i64 v1267, .int .i64 v1268] =>
    .call (impl_rest_g v1267 v1268) fun y => .leaf (.int .i64 y, L)
  | _ => .fail
theorem impl_rest_Fok : COk Try.prog 70 impl_rest_F true := by
  intro F L H args r L' hs ha hr
  unfold impl_rest_F at hr
  split at hr
  · rename_i v1267 v1268
    simp only [Tree.run] at hr
    obtain ⟨y, hy, hr⟩ := Option.bind_eq_some_iff.1 hr
    simp only [Tree.run, Option.some.injEq, Prod.mk.injEq] at hr
    obtain ⟨rfl, rfl⟩ := hr
    exact call_ok0 hs (fun k => (([] : List AV)[k]?).getD .top) [.int .i64 v1267, .int .i64 v1268] [.int .i64 v1267, .int .i64 v1268] (fun F' h0 hi hρ => ⟨by simp [DVs.av, DV.av, BR.av, hρ], impl_rest_fn v1267 v1268 F' (st_nil hi) ⟨trivial, trivial, trivial⟩ hy⟩) rfl
  · cases hr
/-! impl.backOver -/
noncomputable def impl_backOver_l0_T (v1356 : Int) (v1362 : Int) (s : Int) : Tree ((Int) ⊕ (Int)) :=
  (.grd (!decide (v1356 = 0)) <|
  (.br (!decide (Int.tmod (IntKind.i64.wrap (v1362 * s)) v1356 = (1 : Int))) (
   .leaf (.inl (IntKind.i64.wrap (s + (1 : Int))))
  ) (
   .leaf (.inr s)
  )))

noncomputable def impl_backOver_l0_g (v1356 : Int) (v1362 : Int) (s0 : Int) : Option (Int) := whileM (fun s => (impl_backOver_l0_T v1356 v1362 s).run) s0
def impl_backOver_l0_E (v1355 : Int) (v1356 : Int) (v1362 : Int) (s : Int) : Sd := ([.int .i64 v1362,.int .i64 v1356,tp,tp,tp,.int .i64 s,tp,tp,tp,tp,tp,tp,tp,tp,tp,tp,tp,tp], [])
def impl_backOver_l0_X (v1355 : Int) (v1356 : Int) (v1362 : Int) (x : Int) : Out := (.normal, [tp,tp,tp,tp,tp,.int .i64 x,tp,tp,tp,tp,tp,tp,tp,tp,tp,tp,tp,tp], [])
def impl_backOver_l0_kill : List Nat := KL true [0,2,3,1,12]
def impl_backOver_l0_nx : Exit → List Nat
  | .exit 0 => KL true [5,1,12]
  | .ret => KL true [4,1,13]
  | _ => []
noncomputable def impl_backOver_LO (v1355 : Int) (v1356 : Int) : LOr := fun id e L =>
  match id with
  | 0 => .need (normA 0 impl_backOver_l0_kill e L = some (impl_backOver_l0_E v1355 v1356 (gI (vAt e 0)) (gI (vAt e 5)))) (.call (impl_backOver_l0_g v1356 (gI (vAt e 0)) (gI (vAt e 5))) fun x => .leaf (impl_backOver_l0_X v1355 v1356 (gI (vAt e 0)) x))
  | _ => .fail
noncomputable def impl_backOver_tab : List (FuncId × DFn × Bool) := [(70, impl_rest_F, true)]
theorem impl_backOver_hO : OrcOk Try.prog (tabD impl_backOver_tab) (tabM impl_backOver_tab) := tabD_cons impl_rest_Fok (tabD_nil _)
theorem impl_backOver_l0_be (v1355 : Int) (v1356 : Int) (v1362 : Int) (s : Int) : bodyT TT (tabD impl_backOver_tab) (tabM impl_backOver_tab) (impl_backOver_LO v1355 v1356) 0 impl_backOver_l0_kill impl_backOver_l0_nx (bodyOf Try.f123 0) 0 (impl_backOver_l0_E v1355 v1356 v1362 s) = (impl_backOver_l0_T v1356 v1362 s).bind fun y => .leaf (outS (impl_backOver_l0_E v1355 v1356 v1362) (impl_backOver_l0_X v1355 v1356 v1362) y) := by kernel_rfl
theorem impl_backOver_l0_ok (v1355 : Int) (v1356 : Int) : LSound Try.prog 0 (impl_backOver_LO v1355 v1356) 0 (bodyOf Try.f123 0) := by
  intro e L out h
  exact lo_ok (E := impl_backOver_l0_E v1355 v1356 (gI (vAt e 0))) (gT := impl_backOver_l0_T v1356 (gI (vAt e 0))) (X := impl_backOver_l0_X v1355 v1356 (gI (vAt e 0))) (s0 := (gI (vAt e 5))) tok impl_backOver_hO mixed (LoopsOk_eq (l := []) (by kernel_rfl) trivial) (impl_backOver_l0_be v1355 v1356 (gI (vAt e 0))) rfl (by intro x; rfl) h
noncomputable def impl_backOver_T (v1355 : Int) (v1356 : Int) : Tree (Int) :=
  (.call (impl_rest_g v1355 v1356) fun v1357 =>
  (.need (some (impl_backOver_l0_E v1355 v1356 v1357 (1 : Int)) = some (impl_backOver_l0_E v1355 v1356 v1357 (1 : Int))) <|
  (.call (impl_backOver_l0_g v1356 v1357 (1 : Int)) fun v1364 =>
  .leaf v1364)))

noncomputable def impl_backOver_g (v1355 : Int) (v1356 : Int) : Option (Int) := (impl_backOver_T v1355 v1356).run
def impl_backOver_enc (v1355 : Int) (v1356 : Int) (y : Int) : Rs := (.int .i64 y, [])
theorem impl_backOver_den (v1355 : Int) (v1356 : Int) : (den TT (tabD impl_backOver_tab) (tabM impl_backOver_tab) (impl_backOver_LO v1355 v1356) (codeOf Try.f123) ([.int .i64 v1355, .int .i64 v1356] ++ List.replicate (Try.f123.ntmps - ([.int .i64 v1355, .int .i64 v1356] : List DV).length) .undef) []).bind (retD TT Try.f123.results.toList 0) = (impl_backOver_T v1355 v1356).bind fun y => .leaf (impl_backOver_enc v1355 v1356 y) := by kernel_rfl
theorem impl_backOver_fn (v1355 : Int) (v1356 : Int) (F : Fr) (h0 : St F [] F.H0) (hA : DVs.Ok F [] [.int .i64 v1355, .int .i64 v1356]) {y : Int} (hy : impl_backOver_g v1355 v1356 = some y) : ∃ F' H', Fwd 0 F F' [] (impl_backOver_enc v1355 v1356 y).2 ∧ FnOk Try.prog 123 (DVs.av F [.int .i64 v1355, .int .i64 v1356]) F.H0 ((impl_backOver_enc v1355 v1356 y).1.av F') H' ∧ St F' (impl_backOver_enc v1355 v1356 y).2 H' ∧ (impl_backOver_enc v1355 v1356 y).1.Ok F' (impl_backOver_enc v1355 v1356 y).2 :=
  fn_fin tok impl_backOver_hO mixed Try.func123 Try.call123 (by kernel_rfl) (LoopsOk_eq (l := [(0, bodyOf Try.f123 0)]) (by kernel_rfl) ⟨impl_backOver_l0_ok v1355 v1356, trivial⟩) (impl_backOver_den v1355 v1356) hy h0 hA
noncomputable def impl_backOver_F : DFn := fun args L =>
  match args with
  | [.int .i64 v1355, .int .i64 v1356] =>
    .call (impl_backOver_g v1355 v1356) fun y => .leaf (.int .i64 y, L)
  | _ => .fail
theorem impl_backOver_Fok : COk Try.prog 123 impl_backOver_F true := by
  intro F L H args r L' hs ha hr
  unfold impl_backOver_F at hr
  split at hr
  · rename_i v1355 v1356
    simp only [Tree.run] at hr
    obtain ⟨y, hy, hr⟩ := Option.bind_eq_some_iff.1 hr
    simp only [Tree.run, Option.some.injEq, Prod.mk.injEq] at hr
    obtain ⟨rfl, rfl⟩ := hr
    exact call_ok0 hs (fun k => (([] : List AV)[k]?).getD .top) [.int .i64 v1355, .int .i64 v1356] [.int .i64 v1355, .int .i64 v1356] (fun F' h0 hi hρ => ⟨by simp [DVs.av, DV.av, BR.av, hρ], impl_backOver_fn v1355 v1356 F' (st_nil hi) ⟨trivial, trivial, trivial⟩ hy⟩) rfl
  · cases hr
/-! (impl.Whole).over -/
noncomputable def impl_Whole_over_i1_l2_T (v2409 : Int) (v2472 : Int) (v2473 : Int) (v2475 : List (List Int)) (v2476 : List Nat) (s : Int × (List Int)) : Tree ((Int × (List Int)) ⊕ ((List Int))) :=
  (.br (decide (s.1 < v2473)) (
   (.grd (inb s.1 ((s.2).length)) <|
   (.call (impl_rest_g (nth s.2 (Int.toNat s.1)) v2409) fun v2478 =>
   (.grd (inb s.1 ((s.2).length)) <|
   .leaf (.inl (IntKind.i64.wrap (s.1 + (1 : Int)), List.set s.2 (Int.toNat s.1) v2478)))))
  ) (
   .leaf (.inr s.2)
  ))

noncomputable def impl_Whole_over_i1_l2_g (v2409 : Int) (v2472 : Int) (v2473 : Int) (v2475 : List (List Int)) (v2476 : List Nat) (s0 : Int × (List Int)) : Option ((List Int)) := whileM (fun s => (impl_Whole_over_i1_l2_T v2409 v2472 v2473 v2475 v2476 s).run) s0
def impl_Whole_over_i1_l2_E (v2406 : Int) (v2407 : Int) (v2408 : List Int) (v2409 : Int) (v2472 : Int) (v2473 : Int) (v2475 : List (List Int)) (v2476 : List Nat) (s : Int × (List Int)) : Sd := ([tp,.int .i64 v2409,.nilslc,.ptr 0 (0 : Nat) 0 (3 : Nat),tp,tp,tp,tp,tp,.nest 1 0 1 ((v2476).length),.own 2 0 ((([] : List Int)).length),.int .i64 (1 : Int),tp,.own 3 0 ((s.2).length),tp,tp,tp,tp,tp,tp,tp,tp,tp,tp,tp,tp,tp,tp,tp,.int .i64 v2406,.int .i64 v2472,tp,tp,tp,tp,tp,tp,tp,tp,tp,tp,tp,tp,tp,tp,.own 3 0 ((s.2).length),.int .i64 v2473,.int .i64 s.1,tp,tp,tp,tp,tp,tp,tp,tp,tp,tp,tp,tp,tp,tp,tp,tp,tp,tp,tp,tp,tp,tp,tp,tp,tp,tp,tp,tp,tp,tp,tp,tp,tp,tp,tp,tp,tp,tp,tp,tp,tp,tp,tp,tp,tp,tp,tp,tp,tp,tp,tp,tp,tp,tp,tp,tp,tp,tp,tp,tp,tp,tp,tp,tp,tp,tp,tp,tp,tp,tp,tp,tp,tp,tp,tp,tp,tp,tp,tp,tp,tp,tp,tp,tp,tp,tp,tp,tp,tp,tp,tp,tp,tp,tp,tp,tp,tp,tp,tp,tp,tp,tp,tp,tp,tp,tp,tp,tp,tp,tp,tp,tp,tp,tp,tp,tp,tp,tp,tp,tp,tp,tp,tp,tp,tp,tp,tp,tp,tp,tp,tp,tp,tp,tp,tp,tp,tp,tp,tp,tp,tp,tp,tp,tp,tp,tp,tp,tp,tp,tp,tp,tp,tp,tp,tp,tp,tp,tp], [.gen [.int .i64 v2406, .int .i64 v2407, .bslc (BR.root 0) (.i64 v2408)] false 0, .nest [.sl (.i64 v2475) v2476] false 0, .row (.i64 ([] : List Int)) 0, .row (.i64 s.2) 0])
def impl_Whole_over_i1_l2_X (v2406 : Int) (v2407 : Int) (v2408 : List Int) (v2409 : Int) (v2472 : Int) (v2473 : Int) (v2475 : List (List Int)) (v2476 : List Nat) (x : (List Int)) : Out := (.normal, [tp,.int .i64 v2409,.nilslc,.ptr 0 (0 : Nat) 0 (3 : Nat),tp,tp,tp,tp,tp,.nest 1 0 1 ((v2476).length),.own 2 0 ((([] : List Int)).length),.int .i64 (1 : Int),tp,.own 3 0 ((x).length),tp,tp,tp,tp,tp,tp,tp,tp,tp,tp,tp,tp,tp,tp,tp,.int .i64 v2406,.int .i64 v2472,tp,tp,tp,tp,tp,tp,tp,tp,tp,tp,tp,tp,tp,tp,tp,tp,tp,tp,tp,tp,tp,tp,tp,tp,tp,tp,tp,tp,tp,tp,tp,tp,tp,tp,tp,tp,tp,tp,tp,tp,tp,tp,tp,tp,tp,tp,tp,tp,tp,tp,tp,tp,tp,tp,tp,tp,tp,tp,tp,tp,tp,tp,tp,tp,tp,tp,tp,tp,tp,tp,tp,tp,tp,tp,tp,tp,tp,tp,tp,tp,tp,tp,tp,tp,tp,tp,tp,tp,tp,tp,tp,tp,tp,tp,tp,tp,tp,tp,tp,tp,tp,tp,tp,tp,tp,tp,tp,tp,tp,tp,tp,tp,tp,tp,tp,tp,tp,tp,tp,tp,tp,tp,tp,tp,tp,tp,tp,tp,tp,tp,tp,tp,tp,tp,tp,tp,tp,tp,tp,tp,tp,tp,tp,tp,tp,tp,tp,tp,tp,tp,tp,tp,tp,tp,tp,tp,tp,tp,tp,tp,tp,tp,tp,tp,tp,tp,tp,tp,tp,tp,tp,tp,tp,tp,tp], [.gen [.int .i64 v2406, .int .i64 v2407, .bslc (BR.root 0) (.i64 v2408)] false 0, .nest [.sl (.i64 v2475) v2476] false 0, .row (.i64 ([] : List Int)) 0, .row (.i64 x) 0])
def impl_Whole_over_i1_l2_kill : List Nat := KL true [1,3,5,3,1,1,15,2,14,3,158]
def impl_Whole_over_i1_l2_nx : Exit → List Nat
  | .exit 0 => KL true [1,1,1,1,5,3,194]
  | .exit 1 => KL true [1,3,5,3,17,2,175]
  | .exit 2 => KL true [1,3,5,3,1,1,15,2,175]
  | .ret => KL true [6,3,197]
  | _ => []
noncomputable def impl_Whole_over_i1_l0_T (v2406 : Int) (v2407 : Int) (v2408 : List Int) (v2409 : Int) (s : Int × (List (List Int)) × (List Nat)) : Tree ((Int × (List (List Int)) × (List Nat)) ⊕ ((List (List Int)) × (List Nat))) :=
  (.br (decide (s.1 < v2406)) (
   (.call (impl_Whole_row_g v2407 v2408 s.1) fun v2457 =>
   (.need (some (impl_Whole_over_i1_l2_E v2406 v2407 v2408 v2409 s.1 (((([] : List Int) ++ (AM.sub v2408 (IntKind.i64.wrap (s.1 * v2407)) (IntKind.i64.wrap ((IntKind.i64.wrap (s.1 + (1 : Int))) * v2407)))).length : Nat) : Int) s.2.1 s.2.2 ((0 : Int), ([] : List Int) ++ (AM.sub v2408 (IntKind.i64.wrap (s.1 * v2407)) (IntKind.i64.wrap ((IntKind.i64.wrap (s.1 + (1 : Int))) * v2407))))) = some (impl_Whole_over_i1_l2_E v2406 v2407 v2408 v2409 s.1 (((([] : List Int) ++ (AM.sub v2408 (IntKind.i64.wrap (s.1 * v2407)) (IntKind.i64.wrap ((IntKind.i64.wrap (s.1 + (1 : Int))) * v2407)))).length : Nat) : Int) s.2.1 s.2.2 ((0 : Int), ([] : List Int) ++ (AM.sub v2408 (IntKind.i64.wrap (s.1 * v2407)) (IntKind.i64.wrap ((IntKind.i64.wrap (s.1 + (1 : Int))) * v2407)))))) <|
   (.call (impl_Whole_over_i1_l2_g v2409 s.1 (((([] : List Int) ++ (AM.sub v2408 (IntKind.i64.wrap (s.1 * v2407)) (IntKind.i64.wrap ((IntKind.i64.wrap (s.1 + (1 : Int))) * v2407)))).length : Nat) : Int) s.2.1 s.2.2 ((0 : Int), ([] : List Int) ++ (AM.sub v2408 (IntKind.i64.wrap (s.1 * v2407)) (IntKind.i64.wrap ((IntKind.i64.wrap (s.1 + (1 : Int))) * v2407))))) fun v2479 =>
   (.grd (fits (((s.2.2).length) + (1 : Nat))) <|
   .leaf (.inl (IntKind.i64.wrap (s.1 + (1 : Int)), s.2.1 ++ ([v2479] : List (List Int)), s.2.2 ++ [s.2.1.length + 1]))))))
  ) (
   .leaf (.inr (s.2.1, s.2.2))
  ))

noncomputable def impl_Whole_over_i1_l0_g (v2406 : Int) (v2407 : Int) (v2408 : List Int) (v2409 : Int) (s0 : Int × (List (List Int)) × (List Nat)) : Option ((List (List Int)) × (List Nat)) := whileM (fun s => (impl_Whole_over_i1_l0_T v2406 v2407 v2408 v2409 s).run) s0
def impl_Whole_over_i1_l0_E (v2406 : Int) (v2407 : Int) (v2408 : List Int) (v2409 : Int) (s : Int × (List (List Int)) × (List Nat)) : Sd := ([tp,.int .i64 v2409,.nilslc,.ptr 0 (0 : Nat) 0 (3 : Nat),tp,tp,tp,tp,tp,.nest 1 0 1 ((s.2.2).length),.own 2 0 ((([] : List Int)).length),.int .i64 (1 : Int),tp,tp,tp,tp,tp,tp,tp,tp,tp,tp,tp,tp,tp,tp,tp,tp,tp,.int .i64 v2406,.int .i64 s.1,tp,tp,tp,tp,tp,tp,tp,tp,tp,tp,tp,tp,tp,tp,tp,tp,tp,tp,tp,tp,tp,tp,tp,tp,tp,tp,tp,tp,tp,tp,tp,tp,tp,tp,tp,tp,tp,tp,tp,tp,tp,tp,tp,tp,tp,tp,tp,tp,tp,tp,tp,tp,tp,tp,tp,tp,tp,tp,tp,tp,tp,tp,tp,tp,tp,tp,tp,tp,tp,tp,tp,tp,tp,tp,tp,tp,tp,tp,tp,tp,tp,tp,tp,tp,tp,tp,tp,tp,tp,tp,tp,tp,tp,tp,tp,tp,tp,tp,tp,tp,tp,tp,tp,tp,tp,tp,tp,tp,tp,tp,tp,tp,tp,tp,tp,tp,tp,tp,tp,tp,tp,tp,tp,tp,tp,tp,tp,tp,tp,tp,tp,tp,tp,tp,tp,tp,tp,tp,tp,tp,tp,tp,tp,tp,tp,tp,tp,tp,tp,tp,tp,tp,tp,tp,tp,tp,tp,tp,tp,tp,tp,tp,tp,tp,tp,tp,tp,tp,tp,tp,tp,tp,tp,tp,tp], [.gen [.int .i64 v2406, .int .i64 v2407, .bslc (BR.root 0) (.i64 v2408)] false 0, .nest [.sl (.i64 s.2.1) s.2.2] false 0, .row (.i64 ([] : List Int)) 0])
def impl_Whole_over_i1_l0_X (v2406 : Int) (v2407 : Int) (v2408 : List Int) (v2409 : Int) (x : (List (List Int)) × (List Nat)) : Out := (.normal, [tp,.int .i64 v2409,tp,.ptr 0 (0 : Nat) 0 (3 : Nat),tp,tp,tp,tp,tp,.nest 1 0 1 ((x.2).length),.own 2 0 ((([] : List Int)).length),.int .i64 (1 : Int),tp,tp,tp,tp,tp,tp,tp,tp,tp,tp,tp,tp,tp,tp,tp,tp,tp,tp,tp,tp,tp,tp,tp,tp,tp,tp,tp,tp,tp,tp,tp,tp,tp,tp,tp,tp,tp,tp,tp,tp,tp,tp,tp,tp,tp,tp,tp,tp,tp,tp,tp,tp,tp,tp,tp,tp,tp,tp,tp,tp,tp,tp,tp,tp,tp,tp,tp,tp,tp,tp,tp,tp,tp,tp,tp,tp,tp,tp,tp,tp,tp,tp,tp,tp,tp,tp,tp,tp,tp,tp,tp,tp,tp,tp,tp,tp,tp,tp,tp,tp,tp,tp,tp,tp,tp,tp,tp,tp,tp,tp,tp,tp,tp,tp,tp,tp,tp,tp,tp,tp,tp,tp,tp,tp,tp,tp,tp,tp,tp,tp,tp,tp,tp,tp,tp,tp,tp,tp,tp,tp,tp,tp,tp,tp,tp,tp,tp,tp,tp,tp,tp,tp,tp,tp,tp,tp,tp,tp,tp,tp,tp,tp,tp,tp,tp,tp,tp,tp,tp,tp,tp,tp,tp,tp,tp,tp,tp,tp,tp,tp,tp,tp,tp,tp,tp,tp,tp,tp,tp,tp,tp,tp,tp,tp], [.gen [.int .i64 v2406, .int .i64 v2407, .bslc (BR.root 0) (.i64 v2408)] false 0, .nest [.sl (.i64 x.1) x.2] false 0, .row (.i64 ([] : List Int)) 0])
def impl_Whole_over_i1_l0_kill : List Nat := KL true [1,3,5,3,17,2,175]
def impl_Whole_over_i1_l0_nx : Exit → List Nat
  | .exit 0 => KL true [1,1,1,1,5,3,194]
  | .ret => KL true [6,3,197]
  | _ => []
noncomputable def impl_Whole_over_i1_l6_T (v3185 : Int) (v3186 : Int) (v3187 : Int) (v3189 : List (List Int)) (v3190 : List Nat) (v3191 : List Int) (s : Int) : Tree ((Int) ⊕ (Int)) :=
  (.br (decide (s < (((v3190).length : Nat) : Int))) (
   (.grd (inb s ((v3190).length)) <|
   (.grd (inb v3186 ((nget v3189 (nth v3190 (Int.toNat s))).length)) <|
   (.br (decide (nth (nget v3189 (nth v3190 (Int.toNat s))) (Int.toNat v3186) = (0 : Int))) (
    .leaf (.inl (IntKind.i64.wrap (s + (1 : Int))))
   ) (
    .leaf (.inr s)
   ))))
  ) (
   .leaf (.inr s)
  ))

noncomputable def impl_Whole_over_i1_l6_g (v3185 : Int) (v3186 : Int) (v3187 : Int) (v3189 : List (List Int)) (v3190 : List Nat) (v3191 : List Int) (s0 : Int) : Option (Int) := whileM (fun s => (impl_Whole_over_i1_l6_T v3185 v3186 v3187 v3189 v3190 v3191 s).run) s0
def impl_Whole_over_i1_l6_E (v2406 : Int) (v2407 : Int) (v2408 : List Int) (v2409 : Int) (v3185 : Int) (v3186 : Int) (v3187 : Int) (v3189 : List (List Int)) (v3190 : List Nat) (v3191 : List Int) (s : Int) : Sd := ([tp,.int .i64 v2409,tp,tp,tp,tp,tp,tp,tp,.nest 0 0 1 ((v3190).length),.own 1 0 ((v3191).length),.int .i64 v3185,tp,tp,tp,tp,.int .i64 v3186,.int .i64 v3187,.int .i64 s,tp,tp,tp,tp,tp,tp,tp,tp,tp,tp,tp,tp,tp,tp,tp,tp,tp,tp,tp,tp,tp,tp,tp,tp,tp,tp,tp,tp,tp,tp,tp,tp,tp,tp,tp,tp,tp,tp,tp,tp,tp,tp,tp,tp,tp,tp,.int .i64 v2407,.int .i64 v3186,tp,tp,tp,tp,tp,tp,tp,tp,tp,tp,tp,tp,tp,tp,tp,tp,tp,tp,tp,tp,tp,tp,tp,tp,tp,tp,tp,tp,tp,tp,tp,tp,tp,tp,tp,tp,tp,tp,tp,tp,tp,tp,tp,tp,tp,tp,tp,tp,tp,tp,tp,tp,tp,tp,tp,tp,tp,tp,tp,tp,tp,tp,tp,tp,tp,tp,tp,tp,tp,tp,tp,tp,tp,tp,tp,tp,tp,tp,tp,tp,tp,tp,tp,tp,tp,tp,tp,tp,tp,tp,tp,tp,tp,tp,tp,tp,tp,tp,tp,tp,tp,tp,tp,tp,tp,tp,tp,tp,tp,tp,tp,tp,tp,tp,tp,tp,tp,tp,tp,tp,tp,tp,tp,tp,tp,tp,tp,tp,tp,tp,tp,tp,tp,tp,tp,tp,tp,tp,tp], [.nest [.sl (.i64 v3189) v3190] false 0, .row (.i64 v3191) 0])
def impl_Whole_over_i1_l6_X (v2406 : Int) (v2407 : Int) (v2408 : List Int) (v2409 : Int) (v3185 : Int) (v3186 : Int) (v3187 : Int) (v3189 : List (List Int)) (v3190 : List Nat) (v3191 : List Int) (x : Int) : Out := (.normal, [tp,.int .i64 v2409,tp,tp,tp,tp,tp,tp,tp,.nest 0 0 1 ((v3190).length),.own 1 0 ((v3191).length),.int .i64 v3185,tp,tp,tp,tp,.int .i64 v3186,.int .i64 v3187,.int .i64 x,tp,tp,tp,tp,tp,tp,tp,tp,tp,tp,tp,tp,tp,tp,tp,tp,tp,tp,tp,tp,tp,tp,tp,tp,tp,tp,tp,tp,tp,tp,tp,tp,tp,tp,tp,tp,tp,tp,tp,tp,tp,tp,tp,tp,tp,tp,.int .i64 v2407,.int .i64 v3186,tp,tp,tp,tp,tp,tp,tp,tp,tp,tp,tp,tp,tp,tp,tp,tp,tp,tp,tp,tp,tp,tp,tp,tp,tp,tp,tp,tp,tp,tp,tp,tp,tp,tp,tp,tp,tp,tp,tp,tp,tp,tp,tp,tp,tp,tp,tp,tp,tp,tp,tp,tp,tp,tp,tp,tp,tp,tp,tp,tp,tp,tp,tp,tp,tp,tp,tp,tp,tp,tp,tp,tp,tp,tp,tp,tp,tp,tp,tp,tp,tp,tp,tp,tp,tp,tp,tp,tp,tp,tp,tp,tp,tp,tp,tp,tp,tp,tp,tp,tp,tp,tp,tp,tp,tp,tp,tp,tp,tp,tp,tp,tp,tp,tp,tp,tp,tp,tp,tp,tp,tp,tp,tp,tp,tp,tp,tp,tp,tp,tp,tp,tp,tp,tp,tp,tp,tp,tp,tp], [.nest [.sl (.i64 v3189) v3190] false 0, .row (.i64 v3191) 0])
def impl_Whole_over_i1_l6_kill : List Nat := KL true [1,1,7,3,4,3,46,2,139]
def impl_Whole_over_i1_l6_nx : Exit → List Nat
  | .exit 4 => KL true [9,3,194]
  | .exit 5 => KL true [1,1,7,3,53,2,139]
  | .exit 6 => KL true [1,1,7,3,4,3,46,2,139]
  | .ret => KL true [6,3,197]
  | _ => []
noncomputable def impl_Whole_over_i1_l8_T (v2409 : Int) (v3213 : Int) (v3214 : Int) (v3215 : Int) (v3216 : Int) (v3217 : Int) (v3220 : List Nat) (v3221 : List Int) (s : Int × (List (List Int))) : Tree ((Int × (List (List Int))) ⊕ ((List (List Int)))) :=
  (.br (decide (s.1 < v3217)) (
   (.grd (inb v3215 ((v3220).length)) <|
   (.grd (inb v3215 ((v3220).length)) <|
   (.grd (inb s.1 ((nget s.2 (nth v3220 (Int.toNat v3215))).length)) <|
   (.grd (!decide (v2409 = 0)) <|
   (.grd (inb s.1 ((nget s.2 (nth v3220 (Int.toNat v3215))).length)) <|
   .leaf (.inl (IntKind.i64.wrap (s.1 + (1 : Int)), List.set s.2 ((nth v3220 (Int.toNat v3215)) - 1) (List.set (nget s.2 (nth v3220 (Int.toNat v3215))) (Int.toNat s.1) (Int.tmod (IntKind.i64.wrap ((nth (nget s.2 (nth v3220 (Int.toNat v3215))) (Int.toNat s.1)) * v3216)) v2409)))))))))
  ) (
   .leaf (.inr s.2)
  ))

noncomputable def impl_Whole_over_i1_l8_g (v2409 : Int) (v3213 : Int) (v3214 : Int) (v3215 : Int) (v3216 : Int) (v3217 : Int) (v3220 : List Nat) (v3221 : List Int) (s0 : Int × (List (List Int))) : Option ((List (List Int))) := whileM (fun s => (impl_Whole_over_i1_l8_T v2409 v3213 v3214 v3215 v3216 v3217 v3220 v3221 s).run) s0
def impl_Whole_over_i1_l8_E (v2406 : Int) (v2407 : Int) (v2408 : List Int) (v2409 : Int) (v3213 : Int) (v3214 : Int) (v3215 : Int) (v3216 : Int) (v3217 : Int) (v3220 : List Nat) (v3221 : List Int) (s : Int × (List (List Int))) : Sd := ([tp,.int .i64 v2409,tp,tp,tp,tp,tp,tp,tp,.nest 0 0 1 ((v3220).length),.own 1 0 ((v3221).length),.int .i64 v3213,tp,tp,tp,tp,.int .i64 v3214,.int .i64 v3215,tp,tp,.int .i64 v3216,tp,tp,tp,tp,tp,tp,tp,tp,tp,tp,tp,tp,tp,tp,tp,tp,tp,tp,tp,tp,tp,tp,tp,tp,tp,tp,tp,tp,tp,tp,tp,tp,tp,tp,tp,tp,tp,tp,tp,tp,tp,tp,tp,tp,.int .i64 v2407,.int .i64 v3214,tp,tp,tp,tp,tp,tp,tp,tp,tp,tp,tp,tp,tp,tp,tp,tp,tp,tp,tp,tp,tp,tp,tp,tp,tp,tp,tp,tp,tp,tp,tp,tp,tp,tp,tp,tp,tp,tp,tp,tp,tp,tp,tp,tp,tp,tp,tp,tp,tp,tp,tp,tp,tp,tp,tp,tp,tp,tp,tp,tp,tp,tp,tp,tp,tp,.int .i64 v3217,.int .i64 s.1,tp,tp,tp,tp,tp,tp,tp,tp,tp,tp,tp,tp,tp,tp,tp,tp,tp,tp,tp,tp,tp,tp,tp,tp,tp,tp,tp,tp,tp,tp,tp,tp,tp,tp,tp,tp,tp,tp,tp,tp,tp,tp,tp,tp,tp,tp,tp,tp,tp,tp,tp,tp,tp,tp,tp,tp,tp,tp,tp,tp,tp,tp,tp,tp,tp,tp,tp,tp,tp,tp,tp,tp], [.nest [.sl (.i64 s.2) v3220] false 0, .row (.i64 v3221) 0])
def impl_Whole_over_i1_l8_X (v2406 : Int) (v2407 : Int) (v2408 : List Int) (v2409 : Int) (v3213 : Int) (v3214 : Int) (v3215 : Int) (v3216 : Int) (v3217 : Int) (v3220 : List Nat) (v3221 : List Int) (x : (List (List Int))) : Out := (.normal, [tp,.int .i64 v2409,tp,tp,tp,tp,tp,tp,tp,.nest 0 0 1 ((v3220).length),.own 1 0 ((v3221).length),.int .i64 v3213,tp,tp,tp,tp,.int .i64 v3214,.int .i64 v3215,tp,tp,tp,tp,tp,tp,tp,tp,tp,tp,tp,tp,tp,tp,tp,tp,tp,tp,tp,tp,tp,tp,tp,tp,tp,tp,tp,tp,tp,tp,tp,tp,tp,tp,tp,tp,tp,tp,tp,tp,tp,tp,tp,tp,tp,tp,tp,.int .i64 v2407,.int .i64 v3214,tp,tp,tp,tp,tp,tp,tp,tp,tp,tp,tp,tp,tp,tp,tp,tp,tp,tp,tp,tp,tp,tp,tp,tp,tp,tp,tp,tp,tp,tp,tp,tp,tp,tp,tp,tp,tp,tp,tp,tp,tp,tp,tp,tp,tp,tp,tp,tp,tp,tp,tp,tp,tp,tp,tp,tp,tp,tp,tp,tp,tp,tp,tp,tp,tp,tp,tp,tp,tp,tp,tp,tp,tp,tp,tp,tp,tp,tp,tp,tp,tp,tp,tp,tp,tp,tp,tp,tp,tp,tp,tp,tp,tp,tp,tp,tp,tp,tp,tp,tp,tp,tp,tp,tp,tp,tp,tp,tp,tp,tp,tp,tp,tp,tp,tp,tp,tp,tp,tp,tp,tp,tp,tp,tp,tp,tp,tp,tp,tp,tp,tp,tp,tp,tp,tp,tp,tp,tp,tp], [.nest [.sl (.i64 x) v3220] false 0, .row (.i64 v3221) 0])
def impl_Whole_over_i1_l8_kill : List Nat := KL true [1,1,7,3,4,2,2,1,44,2,65,2,72]
def impl_Whole_over_i1_l8_nx : Exit → List Nat
  | .exit 4 => KL true [9,3,194]
  | .exit 5 => KL true [1,1,7,3,53,2,139]
  | .exit 8 => KL true [1,1,7,3,4,2,47,2,139]
  | .ret => KL true [6,3,197]
  | _ => []
noncomputable def impl_Whole_over_i1_l12_T (v2409 : Int) (v3353 : Int) (v3354 : Int) (v3355 : Int) (v3356 : Nat) (v3357 : Int) (v3358 : Int) (v3359 : Int) (v3360 : Int) (v3363 : List Nat) (v3364 : List Int) (s : Int × (List (List Int))) : Tree ((Int × (List (List Int))) ⊕ ((List (List Int)))) :=
  (.br (decide (s.1 < v3360)) (
   (.grd (inb s.1 ((nget s.2 v3356).length)) <|
   (.grd (inb v3355 ((v3363).length)) <|
   (.grd (inb s.1 ((nget s.2 (nth v3363 (Int.toNat v3355))).length)) <|
   (.call (impl_rest_g (IntKind.i64.wrap ((nth (nget s.2 v3356) (Int.toNat s.1)) - (IntKind.i64.wrap (v3357 * (nth (nget s.2 (nth v3363 (Int.toNat v3355))) (Int.toNat s.1)))))) v2409) fun v3365 =>
   (.grd (inb s.1 ((nget s.2 v3356).length)) <|
   .leaf (.inl (IntKind.i64.wrap (s.1 + (1 : Int)), List.set s.2 (v3356 - 1) (List.set (nget s.2 v3356) (Int.toNat s.1) v3365))))))))
  ) (
   .leaf (.inr s.2)
  ))

noncomputable def impl_Whole_over_i1_l12_g (v2409 : Int) (v3353 : Int) (v3354 : Int) (v3355 : Int) (v3356 : Nat) (v3357 : Int) (v3358 : Int) (v3359 : Int) (v3360 : Int) (v3363 : List Nat) (v3364 : List Int) (s0 : Int × (List (List Int))) : Option ((List (List Int))) := whileM (fun s => (impl_Whole_over_i1_l12_T v2409 v3353 v3354 v3355 v3356 v3357 v3358 v3359 v3360 v3363 v3364 s).run) s0
def impl_Whole_over_i1_l12_E (v2406 : Int) (v2407 : Int) (v2408 : List Int) (v2409 : Int) (v3353 : Int) (v3354 : Int) (v3355 : Int) (v3356 : Nat) (v3357 : Int) (v3358 : Int) (v3359 : Int) (v3360 : Int) (v3363 : List Nat) (v3364 : List Int) (s : Int × (List (List Int))) : Sd := ([tp,.int .i64 v2409,tp,tp,tp,tp,tp,tp,tp,.nest 0 0 1 ((v3363).length),.own 1 0 ((v3364).length),.int .i64 v3353,tp,tp,tp,tp,.int .i64 v3354,.int .i64 v3355,tp,tp,tp,tp,tp,.inn 0 0 v3356 ((nget s.2 v3356).length),.int .i64 v3357,tp,tp,tp,tp,tp,tp,tp,tp,tp,tp,tp,tp,tp,tp,tp,tp,tp,tp,tp,tp,tp,tp,tp,tp,tp,tp,tp,tp,tp,tp,tp,tp,tp,tp,tp,tp,tp,tp,tp,tp,.int .i64 v2407,.int .i64 v3354,tp,tp,tp,tp,tp,tp,tp,tp,tp,tp,tp,tp,tp,tp,tp,tp,tp,tp,tp,tp,tp,tp,tp,tp,tp,tp,tp,tp,tp,tp,tp,tp,tp,tp,tp,tp,tp,tp,tp,tp,tp,tp,tp,tp,tp,tp,tp,tp,tp,tp,tp,tp,tp,tp,tp,tp,tp,tp,tp,tp,tp,tp,tp,tp,tp,tp,tp,tp,tp,tp,tp,tp,tp,tp,tp,tp,tp,tp,tp,tp,tp,tp,tp,tp,tp,tp,tp,.nest 0 0 1 ((v3363).length),.int .i64 v3358,.int .i64 v3359,tp,tp,tp,tp,tp,tp,tp,tp,tp,tp,tp,tp,tp,tp,tp,tp,.int .i64 v3360,.int .i64 s.1,tp,tp,tp,tp,tp,tp,tp,tp,tp,tp,tp,tp,tp,tp,tp,tp,tp,tp,tp,tp,tp,tp,tp,tp,tp,tp,tp,tp,tp,tp,tp], [.nest [.sl (.i64 s.2) v3363] false 0, .row (.i64 v3364) 0])
def impl_Whole_over_i1_l12_X (v2406 : Int) (v2407 : Int) (v2408 : List Int) (v2409 : Int) (v3353 : Int) (v3354 : Int) (v3355 : Int) (v3356 : Nat) (v3357 : Int) (v3358 : Int) (v3359 : Int) (v3360 : Int) (v3363 : List Nat) (v3364 : List Int) (x : (List (List Int))) : Out := (.normal, [tp,.int .i64 v2409,tp,tp,tp,tp,tp,tp,tp,.nest 0 0 1 ((v3363).length),.own 1 0 ((v3364).length),.int .i64 v3353,tp,tp,tp,tp,.int .i64 v3354,.int .i64 v3355,tp,tp,tp,tp,tp,tp,tp,tp,tp,tp,tp,tp,tp,tp,tp,tp,tp,tp,tp,tp,tp,tp,tp,tp,tp,tp,tp,tp,tp,tp,tp,tp,tp,tp,tp,tp,tp,tp,tp,tp,tp,tp,tp,tp,tp,tp,tp,.int .i64 v2407,.int .i64 v3354,tp,tp,tp,tp,tp,tp,tp,tp,tp,tp,tp,tp,tp,tp,tp,tp,tp,tp,tp,tp,tp,tp,tp,tp,tp,tp,tp,tp,tp,tp,tp,tp,tp,tp,tp,tp,tp,tp,tp,tp,tp,tp,tp,tp,tp,tp,tp,tp,tp,tp,tp,tp,tp,tp,tp,tp,tp,tp,tp,tp,tp,tp,tp,tp,tp,tp,tp,tp,tp,tp,tp,tp,tp,tp,tp,tp,tp,tp,tp,tp,tp,tp,tp,tp,tp,tp,tp,.nest 0 0 1 ((v3363).length),.int .i64 v3358,.int .i64 v3359,tp,tp,tp,tp,tp,tp,tp,tp,tp,tp,tp,tp,tp,tp,tp,tp,tp,tp,tp,tp,tp,tp,tp,tp,tp,tp,tp,tp,tp,tp,tp,tp,tp,tp,tp,tp,tp,tp,tp,tp,tp,tp,tp,tp,tp,tp,tp,tp,tp], [.nest [.sl (.i64 x) v3363] false 0, .row (.i64 v3364) 0])
def impl_Whole_over_i1_l12_kill : List Nat := KL true [1,1,7,3,4,2,5,2,40,2,87,3,16,2,31]
def impl_Whole_over_i1_l12_nx : Exit → List Nat
  | .exit 4 => KL true [9,3,194]
  | .exit 5 => KL true [1,1,7,3,53,2,139]
  | .exit 10 => KL true [1,1,7,3,4,1,48,2,139]
  | .exit 11 => KL true [1,1,7,3,4,2,47,2,87,3,49]
  | .exit 12 => KL true [1,1,7,3,4,2,47,2,87,3,49]
  | .ret => KL true [6,3,197]
  | _ => []
noncomputable def impl_Whole_over_i1_l10_T (v2406 : Int) (v2407 : Int) (v2408 : List Int) (v2409 : Int) (v3319 : Int) (v3320 : Int) (v3321 : Int) (v3322 : Int) (v3325 : List Nat) (v3326 : List Int) (s : Int × (List (List Int))) : Tree ((Int × (List (List Int))) ⊕ ((List (List Int)))) :=
  (.br (decide (s.1 < v3322)) (
   (.grd (inb s.1 ((v3325).length)) <|
   (.grd (inb v3320 ((nget s.2 (nth v3325 (Int.toNat s.1))).length)) <|
   (.br (!decide (s.1 = v3321)) (
    (.br (!decide (nth (nget s.2 (nth v3325 (Int.toNat s.1))) (Int.toNat v3320) = (0 : Int))) (
     (.need (some (impl_Whole_over_i1_l12_E v2406 v2407 v2408 v2409 v3319 v3320 v3321 (nth v3325 (Int.toNat s.1)) (nth (nget s.2 (nth v3325 (Int.toNat s.1))) (Int.toNat v3320)) v3322 s.1 (((nget s.2 (nth v3325 (Int.toNat s.1))).length : Nat) : Int) v3325 v3326 ((0 : Int), s.2)) = some (impl_Whole_over_i1_l12_E v2406 v2407 v2408 v2409 v3319 v3320 v3321 (nth v3325 (Int.toNat s.1)) (nth (nget s.2 (nth v3325 (Int.toNat s.1))) (Int.toNat v3320)) v3322 s.1 (((nget s.2 (nth v3325 (Int.toNat s.1))).length : Nat) : Int) v3325 v3326 ((0 : Int), s.2))) <|
     (.call (impl_Whole_over_i1_l12_g v2409 v3319 v3320 v3321 (nth v3325 (Int.toNat s.1)) (nth (nget s.2 (nth v3325 (Int.toNat s.1))) (Int.toNat v3320)) v3322 s.1 (((nget s.2 (nth v3325 (Int.toNat s.1))).length : Nat) : Int) v3325 v3326 ((0 : Int), s.2)) fun v3366 =>
     .leaf (.inl (IntKind.i64.wrap (s.1 + (1 : Int)), v3366))))
    ) (
     .leaf (.inl (IntKind.i64.wrap (s.1 + (1 : Int)), s.2))
    ))
   ) (
    .leaf (.inl (IntKind.i64.wrap (s.1 + (1 : Int)), s.2))
   ))))
  ) (
   .leaf (.inr s.2)
  ))

noncomputable def impl_Whole_over_i1_l10_g (v2406 : Int) (v2407 : Int) (v2408 : List Int) (v2409 : Int) (v3319 : Int) (v3320 : Int) (v3321 : Int) (v3322 : Int) (v3325 : List Nat) (v3326 : List Int) (s0 : Int × (List (List Int))) : Option ((List (List Int))) := whileM (fun s => (impl_Whole_over_i1_l10_T v2406 v2407 v2408 v2409 v3319 v3320 v3321 v3322 v3325 v3326 s).run) s0
def impl_Whole_over_i1_l10_E (v2406 : Int) (v2407 : Int) (v2408 : List Int) (v2409 : Int) (v3319 : Int) (v3320 : Int) (v3321 : Int) (v3322 : Int) (v3325 : List Nat) (v3326 : List Int) (s : Int × (List (List Int))) : Sd := ([tp,.int .i64 v2409,tp,tp,tp,tp,tp,tp,tp,.nest 0 0 1 ((v3325).length),.own 1 0 ((v3326).length),.int .i64 v3319,tp,tp,tp,tp,.int .i64 v3320,.int .i64 v3321,tp,tp,tp,tp,tp,tp,tp,tp,tp,tp,tp,tp,tp,tp,tp,tp,tp,tp,tp,tp,tp,tp,tp,tp,tp,tp,tp,tp,tp,tp,tp,tp,tp,tp,tp,tp,tp,tp,tp,tp,tp,tp,tp,tp,tp,tp,tp,.int .i64 v2407,.int .i64 v3320,tp,tp,tp,tp,tp,tp,tp,tp,tp,tp,tp,tp,tp,tp,tp,tp,tp,tp,tp,tp,tp,tp,tp,tp,tp,tp,tp,tp,tp,tp,tp,tp,tp,tp,tp,tp,tp,tp,tp,tp,tp,tp,tp,tp,tp,tp,tp,tp,tp,tp,tp,tp,tp,tp,tp,tp,tp,tp,tp,tp,tp,tp,tp,tp,tp,tp,tp,tp,tp,tp,tp,tp,tp,tp,tp,tp,tp,tp,tp,tp,tp,tp,tp,tp,tp,tp,tp,.nest 0 0 1 ((v3325).length),.int .i64 v3322,.int .i64 s.1,tp,tp,tp,tp,tp,tp,tp,tp,tp,tp,tp,tp,tp,tp,tp,tp,tp,tp,tp,tp,tp,tp,tp,tp,tp,tp,tp,tp,tp,tp,tp,tp,tp,tp,tp,tp,tp,tp,tp,tp,tp,tp,tp,tp,tp,tp,tp,tp,tp], [.nest [.sl (.i64 s.2) v3325] false 0, .row (.i64 v3326) 0])
def impl_Whole_over_i1_l10_X (v2406 : Int) (v2407 : Int) (v2408 : List Int) (v2409 : Int) (v3319 : Int) (v3320 : Int) (v3321 : Int) (v3322 : Int) (v3325 : List Nat) (v3326 : List Int) (x : (List (List Int))) : Out := (.normal, [tp,.int .i64 v2409,tp,tp,tp,tp,tp,tp,tp,.nest 0 0 1 ((v3325).length),.own 1 0 ((v3326).length),.int .i64 v3319,tp,tp,tp,tp,.int .i64 v3320,tp,tp,tp,tp,tp,tp,tp,tp,tp,tp,tp,tp,tp,tp,tp,tp,tp,tp,tp,tp,tp,tp,tp,tp,tp,tp,tp,tp,tp,tp,tp,tp,tp,tp,tp,tp,tp,tp,tp,tp,tp,tp,tp,tp,tp,tp,tp,tp,.int .i64 v2407,.int .i64 v3320,tp,tp,tp,tp,tp,tp,tp,tp,tp,tp,tp,tp,tp,tp,tp,tp,tp,tp,tp,tp,tp,tp,tp,tp,tp,tp,tp,tp,tp,tp,tp,tp,tp,tp,tp,tp,tp,tp,tp,tp,tp,tp,tp,tp,tp,tp,tp,tp,tp,tp,tp,tp,tp,tp,tp,tp,tp,tp,tp,tp,tp,tp,tp,tp,tp,tp,tp,tp,tp,tp,tp,tp,tp,tp,tp,tp,tp,tp,tp,tp,tp,tp,tp,tp,tp,tp,tp,tp,tp,tp,tp,tp,tp,tp,tp,tp,tp,tp,tp,tp,tp,tp,tp,tp,tp,tp,tp,tp,tp,tp,tp,tp,tp,tp,tp,tp,tp,tp,tp,tp,tp,tp,tp,tp,tp,tp,tp,tp,tp,tp,tp,tp,tp,tp,tp,tp,tp,tp,tp], [.nest [.sl (.i64 x) v3325] false 0, .row (.i64 v3326) 0])
def impl_Whole_over_i1_l10_kill : List Nat := KL true [1,1,7,3,4,2,47,2,87,3,49]
def impl_Whole_over_i1_l10_nx : Exit → List Nat
  | .exit 4 => KL true [9,3,194]
  | .exit 5 => KL true [1,1,7,3,53,2,139]
  | .exit 10 => KL true [1,1,7,3,4,1,48,2,139]
  | .ret => KL true [6,3,197]
  | _ => []
noncomputable def impl_Whole_over_i1_l4_T (v2406 : Int) (v2407 : Int) (v2408 : List Int) (v2409 : Int) (s : Int × Int × (List (List Int)) × (List Nat) × (List Int)) : Tree ((Int × Int × (List (List Int)) × (List Nat) × (List Int)) ⊕ (Int × (List (List Int)) × (List Nat) × (List Int))) :=
  (.br (decide (s.2.1 < v2407)) (
   (.need (some (impl_Whole_over_i1_l6_E v2406 v2407 v2408 v2409 s.1 s.2.1 (((s.2.2.2.2).length : Nat) : Int) s.2.2.1 s.2.2.2.1 s.2.2.2.2 (((s.2.2.2.2).length : Nat) : Int)) = some (impl_Whole_over_i1_l6_E v2406 v2407 v2408 v2409 s.1 s.2.1 (((s.2.2.2.2).length : Nat) : Int) s.2.2.1 s.2.2.2.1 s.2.2.2.2 (((s.2.2.2.2).length : Nat) : Int))) <|
   (.call (impl_Whole_over_i1_l6_g s.1 s.2.1 (((s.2.2.2.2).length : Nat) : Int) s.2.2.1 s.2.2.2.1 s.2.2.2.2 (((s.2.2.2.2).length : Nat) : Int)) fun v3192 =>
   (.br (decide (v3192 = (((s.2.2.2.1).length : Nat) : Int))) (
    .leaf (.inl ((0 : Int), IntKind.i64.wrap (s.2.1 + (1 : Int)), s.2.2.1, s.2.2.2.1, s.2.2.2.2))
   ) (
    (.br (!decide (v3192 = (((s.2.2.2.2).length : Nat) : Int))) (
     (.grd (inb (((s.2.2.2.2).length : Nat) : Int) ((s.2.2.2.1).length)) <|
     (.grd (inb v3192 ((s.2.2.2.1).length)) <|
     (.grd (inb v3192 ((s.2.2.2.1).length)) <|
     (.grd (inb (((s.2.2.2.2).length : Nat) : Int) ((s.2.2.2.1).length)) <|
     (.call (impl_rest_g (IntKind.i64.wrap (0 - s.1)) v2409) fun v3193 =>
     (.grd (inb (((s.2.2.2.2).length : Nat) : Int) ((s.2.2.2.1).length)) <|
     (.grd (inb s.2.1 ((nget s.2.2.1 (nth (List.set (List.set s.2.2.2.1 (Int.toNat v3192) (nth s.2.2.2.1 (Int.toNat (((s.2.2.2.2).length : Nat) : Int)))) (Int.toNat (((s.2.2.2.2).length : Nat) : Int)) (nth s.2.2.2.1 (Int.toNat v3192))) (Int.toNat (((s.2.2.2.2).length : Nat) : Int)))).length)) <|
     (.grd (!decide (v2409 = 0)) <|
     (.call (impl_backOver_g (nth (nget s.2.2.1 (nth (List.set (List.set s.2.2.2.1 (Int.toNat v3192) (nth s.2.2.2.1 (Int.toNat (((s.2.2.2.2).length : Nat) : Int)))) (Int.toNat (((s.2.2.2.2).length : Nat) : Int)) (nth s.2.2.2.1 (Int.toNat v3192))) (Int.toNat (((s.2.2.2.2).length : Nat) : Int)))) (Int.toNat s.2.1)) v2409) fun v3194 =>
     (.grd (inb (((s.2.2.2.2).length : Nat) : Int) ((s.2.2.2.1).length)) <|
     (.need (some (impl_Whole_over_i1_l8_E v2406 v2407 v2408 v2409 (Int.tmod (IntKind.i64.wrap (v3193 * (nth (nget s.2.2.1 (nth (List.set (List.set s.2.2.2.1 (Int.toNat v3192) (nth s.2.2.2.1 (Int.toNat (((s.2.2.2.2).length : Nat) : Int)))) (Int.toNat (((s.2.2.2.2).length : Nat) : Int)) (nth s.2.2.2.1 (Int.toNat v3192))) (Int.toNat (((s.2.2.2.2).length : Nat) : Int)))) (Int.toNat s.2.1)))) v2409) s.2.1 (((s.2.2.2.2).length : Nat) : Int) v3194 (((nget s.2.2.1 (nth (List.set (List.set s.2.2.2.1 (Int.toNat v3192) (nth s.2.2.2.1 (Int.toNat (((s.2.2.2.2).length : Nat) : Int)))) (Int.toNat (((s.2.2.2.2).length : Nat) : Int)) (nth s.2.2.2.1 (Int.toNat v3192))) (Int.toNat (((s.2.2.2.2).length : Nat) : Int)))).length : Nat) : Int) (List.set (List.set s.2.2.2.1 (Int.toNat v3192) (nth s.2.2.2.1 (Int.toNat (((s.2.2.2.2).length : Nat) : Int)))) (Int.toNat (((s.2.2.2.2).length : Nat) : Int)) (nth s.2.2.2.1 (Int.toNat v3192))) s.2.2.2.2 ((0 : Int), s.2.2.1)) = some (impl_Whole_over_i1_l8_E v2406 v2407 v2408 v2409 (Int.tmod (IntKind.i64.wrap (v3193 * (nth (nget s.2.2.1 (nth (List.set (List.set s.2.2.2.1 (Int.toNat v3192) (nth s.2.2.2.1 (Int.toNat (((s.2.2.2.2).length : Nat) : Int)))) (Int.toNat (((s.2.2.2.2).length : Nat) : Int)) (nth s.2.2.2.1 (Int.toNat v3192))) (Int.toNat (((s.2.2.2.2).length : Nat) : Int)))) (Int.toNat s.2.1)))) v2409) s.2.1 (((s.2.2.2.2).length : Nat) : Int) v3194 (((nget s.2.2.1 (nth (List.set (List.set s.2.2.2.1 (Int.toNat v3192) (nth s.2.2.2.1 (Int.toNat (((s.2.2.2.2).length : Nat) : Int)))) (Int.toNat (((s.2.2.2.2).length : Nat) : Int)) (nth s.2.2.2.1 (Int.toNat v3192))) (Int.toNat (((s.2.2.2.2).length : Nat) : Int)))).length : Nat) : Int) (List.set (List.set s.2.2.2.1 (Int.toNat v3192) (nth s.2.2.2.1 (Int.toNat (((s.2.2.2.2).length : Nat) : Int)))) (Int.toNat (((s.2.2.2.2).length : Nat) : Int)) (nth s.2.2.2.1 (Int.toNat v3192))) s.2.2.2.2 ((0 : Int), s.2.2.1))) <|
     (.call (impl_Whole_over_i1_l8_g v2409 (Int.tmod (IntKind.i64.wrap (v3193 * (nth (nget s.2.2.1 (nth (List.set (List.set s.2.2.2.1 (Int.toNat v3192) (nth s.2.2.2.1 (Int.toNat (((s.2.2.2.2).length : Nat) : Int)))) (Int.toNat (((s.2.2.2.2).length : Nat) : Int)) (nth s.2.2.2.1 (Int.toNat v3192))) (Int.toNat (((s.2.2.2.2).length : Nat) : Int)))) (Int.toNat s.2.1)))) v2409) s.2.1 (((s.2.2.2.2).length : Nat) : Int) v3194 (((nget s.2.2.1 (nth (List.set (List.set s.2.2.2.1 (Int.toNat v3192) (nth s.2.2.2.1 (Int.toNat (((s.2.2.2.2).length : Nat) : Int)))) (Int.toNat (((s.2.2.2.2).length : Nat) : Int)) (nth s.2.2.2.1 (Int.toNat v3192))) (Int.toNat (((s.2.2.2.2).length : Nat) : Int)))).length : Nat) : Int) (List.set (List.set s.2.2.2.1 (Int.toNat v3192) (nth s.2.2.2.1 (Int.toNat (((s.2.2.2.2).length : Nat) : Int)))) (Int.toNat (((s.2.2.2.2).length : Nat) : Int)) (nth s.2.2.2.1 (Int.toNat v3192))) s.2.2.2.2 ((0 : Int), s.2.2.1)) fun v3222 =>
     (.need (some (impl_Whole_over_i1_l10_E v2406 v2407 v2408 v2409 (Int.tmod (IntKind.i64.wrap (v3193 * (nth (nget s.2.2.1 (nth (List.set (List.set s.2.2.2.1 (Int.toNat v3192) (nth s.2.2.2.1 (Int.toNat (((s.2.2.2.2).length : Nat) : Int)))) (Int.toNat (((s.2.2.2.2).length : Nat) : Int)) (nth s.2.2.2.1 (Int.toNat v3192))) (Int.toNat (((s.2.2.2.2).length : Nat) : Int)))) (Int.toNat s.2.1)))) v2409) s.2.1 (((s.2.2.2.2).length : Nat) : Int) ((((List.set (List.set s.2.2.2.1 (Int.toNat v3192) (nth s.2.2.2.1 (Int.toNat (((s.2.2.2.2).length : Nat) : Int)))) (Int.toNat (((s.2.2.2.2).length : Nat) : Int)) (nth s.2.2.2.1 (Int.toNat v3192)))).length : Nat) : Int) (List.set (List.set s.2.2.2.1 (Int.toNat v3192) (nth s.2.2.2.1 (Int.toNat (((s.2.2.2.2).length : Nat) : Int)))) (Int.toNat (((s.2.2.2.2).length : Nat) : Int)) (nth s.2.2.2.1 (Int.toNat v3192))) s.2.2.2.2 ((0 : Int), v3222)) = some (impl_Whole_over_i1_l10_E v2406 v2407 v2408 v2409 (Int.tmod (IntKind.i64.wrap (v3193 * (nth (nget s.2.2.1 (nth (List.set (List.set s.2.2.2.1 (Int.toNat v3192) (nth s.2.2.2.1 (Int.toNat (((s.2.2.2.2).length : Nat) : Int)))) (Int.toNat (((s.2.2.2.2).length : Nat) : Int)) (nth s.2.2.2.1 (Int.toNat v3192))) (Int.toNat (((s.2.2.2.2).length : Nat) : Int)))) (Int.toNat s.2.1)))) v2409) s.2.1 (((s.2.2.2.2).length : Nat) : Int) ((((List.set (List.set s.2.2.2.1 (Int.toNat v3192) (nth s.2.2.2.1 (Int.toNat (((s.2.2.2.2).length : Nat) : Int)))) (Int.toNat (((s.2.2.2.2).length : Nat) : Int)) (nth s.2.2.2.1 (Int.toNat v3192)))).length : Nat) : Int) (List.set (List.set s.2.2.2.1 (Int.toNat v3192) (nth s.2.2.2.1 (Int.toNat (((s.2.2.2.2).length : Nat) : Int)))) (Int.toNat (((s.2.2.2.2).length : Nat) : Int)) (nth s.2.2.2.1 (Int.toNat v3192))) s.2.2.2.2 ((0 : Int), v3222))) <|
     (.call (impl_Whole_over_i1_l10_g v2406 v2407 v2408 v2409 (Int.tmod (IntKind.i64.wrap (v3193 * (nth (nget s.2.2.1 (nth (List.set (List.set s.2.2.2.1 (Int.toNat v3192) (nth s.2.2.2.1 (Int.toNat (((s.2.2.2.2).length : Nat) : Int)))) (Int.toNat (((s.2.2.2.2).length : Nat) : Int)) (nth s.2.2.2.1 (Int.toNat v3192))) (Int.toNat (((s.2.2.2.2).length : Nat) : Int)))) (Int.toNat s.2.1)))) v2409) s.2.1 (((s.2.2.2.2).length : Nat) : Int) ((((List.set (List.set s.2.2.2.1 (Int.toNat v3192) (nth s.2.2.2.1 (Int.toNat (((s.2.2.2.2).length : Nat) : Int)))) (Int.toNat (((s.2.2.2.2).length : Nat) : Int)) (nth s.2.2.2.1 (Int.toNat v3192)))).length : Nat) : Int) (List.set (List.set s.2.2.2.1 (Int.toNat v3192) (nth s.2.2.2.1 (Int.toNat (((s.2.2.2.2).length : Nat) : Int)))) (Int.toNat (((s.2.2.2.2).length : Nat) : Int)) (nth s.2.2.2.1 (Int.toNat v3192))) s.2.2.2.2 ((0 : Int), v3222)) fun v3367 =>
     (.grd (fits (s.2.2.2.2 ++ ([s.2.1] : List Int)).length) <|
     .leaf (.inl ((Int.tmod (IntKind.i64.wrap (v3193 * (nth (nget s.2.2.1 (nth (List.set (List.set s.2.2.2.1 (Int.toNat v3192) (nth s.2.2.2.1 (Int.toNat (((s.2.2.2.2).length : Nat) : Int)))) (Int.toNat (((s.2.2.2.2).length : Nat) : Int)) (nth s.2.2.2.1 (Int.toNat v3192))) (Int.toNat (((s.2.2.2.2).length : Nat) : Int)))) (Int.toNat s.2.1)))) v2409), IntKind.i64.wrap (s.2.1 + (1 : Int)), v3367, (List.set (List.set s.2.2.2.1 (Int.toNat v3192) (nth s.2.2.2.1 (Int.toNat (((s.2.2.2.2).length : Nat) : Int)))) (Int.toNat (((s.2.2.2.2).length : Nat) : Int)) (nth s.2.2.2.1 (Int.toNat v3192))), s.2.2.2.2 ++ ([s.2.1] : List Int))))))))))))))))))
    ) (
     (.grd (inb (((s.2.2.2.2).length : Nat) : Int) ((s.2.2.2.1).length)) <|
     (.grd (inb s.2.1 ((nget s.2.2.1 (nth s.2.2.2.1 (Int.toNat (((s.2.2.2.2).length : Nat) : Int)))).length)) <|
     (.grd (!decide (v2409 = 0)) <|
     (.call (impl_backOver_g (nth (nget s.2.2.1 (nth s.2.2.2.1 (Int.toNat (((s.2.2.2.2).length : Nat) : Int)))) (Int.toNat s.2.1)) v2409) fun v3368 =>
     (.grd (inb (((s.2.2.2.2).length : Nat) : Int) ((s.2.2.2.1).length)) <|
     (.need (some (impl_Whole_over_i1_l8_E v2406 v2407 v2408 v2409 (Int.tmod (IntKind.i64.wrap (s.1 * (nth (nget s.2.2.1 (nth s.2.2.2.1 (Int.toNat (((s.2.2.2.2).length : Nat) : Int)))) (Int.toNat s.2.1)))) v2409) s.2.1 (((s.2.2.2.2).length : Nat) : Int) v3368 (((nget s.2.2.1 (nth s.2.2.2.1 (Int.toNat (((s.2.2.2.2).length : Nat) : Int)))).length : Nat) : Int) s.2.2.2.1 s.2.2.2.2 ((0 : Int), s.2.2.1)) = some (impl_Whole_over_i1_l8_E v2406 v2407 v2408 v2409 (Int.tmod (IntKind.i64.wrap (s.1 * (nth (nget s.2.2.1 (nth s.2.2.2.1 (Int.toNat (((s.2.2.2.2).length : Nat) : Int)))) (Int.toNat s.2.1)))) v2409) s.2.1 (((s.2.2.2.2).length : Nat) : Int) v3368 (((nget s.2.2.1 (nth s.2.2.2.1 (Int.toNat (((s.2.2.2.2).length : Nat) : Int)))).length : Nat) : Int) s.2.2.2.1 s.2.2.2.2 ((0 : Int), s.2.2.1))) <|
     (.call (impl_Whole_over_i1_l8_g v2409 (Int.tmod (IntKind.i64.wrap (s.1 * (nth (nget s.2.2.1 (nth s.2.2.2.1 (Int.toNat (((s.2.2.2.2).length : Nat) : Int)))) (Int.toNat s.2.1)))) v2409) s.2.1 (((s.2.2.2.2).length : Nat) : Int) v3368 (((nget s.2.2.1 (nth s.2.2.2.1 (Int.toNat (((s.2.2.2.2).length : Nat) : Int)))).length : Nat) : Int) s.2.2.2.1 s.2.2.2.2 ((0 : Int), s.2.2.1)) fun v3396 =>
     (.need (some (impl_Whole_over_i1_l10_E v2406 v2407 v2408 v2409 (Int.tmod (IntKind.i64.wrap (s.1 * (nth (nget s.2.2.1 (nth s.2.2.2.1 (Int.toNat (((s.2.2.2.2).length : Nat) : Int)))) (Int.toNat s.2.1)))) v2409) s.2.1 (((s.2.2.2.2).length : Nat) : Int) (((s.2.2.2.1).length : Nat) : Int) s.2.2.2.1 s.2.2.2.2 ((0 : Int), v3396)) = some (impl_Whole_over_i1_l10_E v2406 v2407 v2408 v2409 (Int.tmod (IntKind.i64.wrap (s.1 * (nth (nget s.2.2.1 (nth s.2.2.2.1 (Int.toNat (((s.2.2.2.2).length : Nat) : Int)))) (Int.toNat s.2.1)))) v2409) s.2.1 (((s.2.2.2.2).length : Nat) : Int) (((s.2.2.2.1).length : Nat) : Int) s.2.2.2.1 s.2.2.2.2 ((0 : Int), v3396))) <|
     (.call (impl_Whole_over_i1_l10_g v2406 v2407 v2408 v2409 (Int.tmod (IntKind.i64.wrap (s.1 * (nth (nget s.2.2.1 (nth s.2.2.2.1 (Int.toNat (((s.2.2.2.2).length : Nat) : Int)))) (Int.toNat s.2.1)))) v2409) s.2.1 (((s.2.2.2.2).length : Nat) : Int) (((s.2.2.2.1).length : Nat) : Int) s.2.2.2.1 s.2.2.2.2 ((0 : Int), v3396)) fun v3541 =>
     (.grd (fits (s.2.2.2.2 ++ ([s.2.1] : List Int)).length) <|
     .leaf (.inl ((Int.tmod (IntKind.i64.wrap (s.1 * (nth (nget s.2.2.1 (nth s.2.2.2.1 (Int.toNat (((s.2.2.2.2).length : Nat) : Int)))) (Int.toNat s.2.1)))) v2409), IntKind.i64.wrap (s.2.1 + (1 : Int)), v3541, s.2.2.2.1, s.2.2.2.2 ++ ([s.2.1] : List Int)))))))))))))
    ))
   ))))
  ) (
   .leaf (.inr (s.1, s.2.2.1, s.2.2.2.1, s.2.2.2.2))
  ))

noncomputable def impl_Whole_over_i1_l4_g (v2406 : Int) (v2407 : Int) (v2408 : List Int) (v2409 : Int) (s0 : Int × Int × (List (List Int)) × (List Nat) × (List Int)) : Option (Int × (List (List Int)) × (List Nat) × (List Int)) := whileM (fun s => (impl_Whole_over_i1_l4_T v2406 v2407 v2408 v2409 s).run) s0
def impl_Whole_over_i1_l4_E (v2406 : Int) (v2407 : Int) (v2408 : List Int) (v2409 : Int) (s : Int × Int × (List (List Int)) × (List Nat) × (List Int)) : Sd := ([tp,.int .i64 v2409,tp,tp,tp,tp,tp,tp,tp,.nest 0 0 1 ((s.2.2.2.1).length),.own 1 0 ((s.2.2.2.2).length),.int .i64 s.1,tp,tp,tp,tp,tp,tp,tp,tp,tp,tp,tp,tp,tp,tp,tp,tp,tp,tp,tp,tp,tp,tp,tp,tp,tp,tp,tp,tp,tp,tp,tp,tp,tp,tp,tp,tp,tp,tp,tp,tp,tp,tp,tp,tp,tp,tp,tp,tp,tp,tp,tp,tp,tp,.int .i64 v2407,.int .i64 s.2.1,tp,tp,tp,tp,tp,tp,tp,tp,tp,tp,tp,tp,tp,tp,tp,tp,tp,tp,tp,tp,tp,tp,tp,tp,tp,tp,tp,tp,tp,tp,tp,tp,tp,tp,tp,tp,tp,tp,tp,tp,tp,tp,tp,tp,tp,tp,tp,tp,tp,tp,tp,tp,tp,tp,tp,tp,tp,tp,tp,tp,tp,tp,tp,tp,tp,tp,tp,tp,tp,tp,tp,tp,tp,tp,tp,tp,tp,tp,tp,tp,tp,tp,tp,tp,tp,tp,tp,tp,tp,tp,tp,tp,tp,tp,tp,tp,tp,tp,tp,tp,tp,tp,tp,tp,tp,tp,tp,tp,tp,tp,tp,tp,tp,tp,tp,tp,tp,tp,tp,tp,tp,tp,tp,tp,tp,tp,tp,tp,tp,tp,tp,tp,tp,tp,tp,tp,tp,tp,tp], [.nest [.sl (.i64 s.2.2.1) s.2.2.2.1] false 0, .row (.i64 s.2.2.2.2) 0])
def impl_Whole_over_i1_l4_X (v2406 : Int) (v2407 : Int) (v2408 : List Int) (v2409 : Int) (x : Int × (List (List Int)) × (List Nat) × (List Int)) : Out := (.normal, [tp,tp,tp,tp,tp,tp,tp,tp,tp,.nest 0 0 1 ((x.2.2.1).length),.own 1 0 ((x.2.2.2).length),.int .i64 x.1,tp,tp,tp,tp,tp,tp,tp,tp,tp,tp,tp,tp,tp,tp,tp,tp,tp,tp,tp,tp,tp,tp,tp,tp,tp,tp,tp,tp,tp,tp,tp,tp,tp,tp,tp,tp,tp,tp,tp,tp,tp,tp,tp,tp,tp,tp,tp,tp,tp,tp,tp,tp,tp,tp,tp,tp,tp,tp,tp,tp,tp,tp,tp,tp,tp,tp,tp,tp,tp,tp,tp,tp,tp,tp,tp,tp,tp,tp,tp,tp,tp,tp,tp,tp,tp,tp,tp,tp,tp,tp,tp,tp,tp,tp,tp,tp,tp,tp,tp,tp,tp,tp,tp,tp,tp,tp,tp,tp,tp,tp,tp,tp,tp,tp,tp,tp,tp,tp,tp,tp,tp,tp,tp,tp,tp,tp,tp,tp,tp,tp,tp,tp,tp,tp,tp,tp,tp,tp,tp,tp,tp,tp,tp,tp,tp,tp,tp,tp,tp,tp,tp,tp,tp,tp,tp,tp,tp,tp,tp,tp,tp,tp,tp,tp,tp,tp,tp,tp,tp,tp,tp,tp,tp,tp,tp,tp,tp,tp,tp,tp,tp,tp,tp,tp,tp,tp,tp,tp,tp,tp,tp,tp,tp,tp], [.nest [.sl (.i64 x.2.1) x.2.2.1] false 0, .row (.i64 x.2.2.2) 0])
def impl_Whole_over_i1_l4_kill : List Nat := KL true [1,1,7,3,53,2,139]
def impl_Whole_over_i1_l4_nx : Exit → List Nat
  | .exit 4 => KL true [9,3,194]
  | .ret => KL true [6,3,197]
  | _ => []
noncomputable def impl_Whole_over_i1_LO (v2406 : Int) (v2407 : Int) (v2408 : List Int) (v2409 : Int) : LOr := fun id e L =>
  match id with
  | 2 => .need (normA 0 impl_Whole_over_i1_l2_kill e L = some (impl_Whole_over_i1_l2_E v2406 v2407 v2408 v2409 (gI (vAt e 30)) (gI (vAt e 46)) (gPI L (vAt e 9) 0) (gX L (vAt e 9) 0) ((gI (vAt e 47)), (gRI L (vAt e 13))))) (.call (impl_Whole_over_i1_l2_g v2409 (gI (vAt e 30)) (gI (vAt e 46)) (gPI L (vAt e 9) 0) (gX L (vAt e 9) 0) ((gI (vAt e 47)), (gRI L (vAt e 13)))) fun x => .leaf (impl_Whole_over_i1_l2_X v2406 v2407 v2408 v2409 (gI (vAt e 30)) (gI (vAt e 46)) (gPI L (vAt e 9) 0) (gX L (vAt e 9) 0) x))
  | 0 => .need (normA 0 impl_Whole_over_i1_l0_kill e L = some (impl_Whole_over_i1_l0_E v2406 v2407 v2408 v2409 ((gI (vAt e 30)), (gPI L (vAt e 9) 0), (gX L (vAt e 9) 0)))) (.call (impl_Whole_over_i1_l0_g v2406 v2407 v2408 v2409 ((gI (vAt e 30)), (gPI L (vAt e 9) 0), (gX L (vAt e 9) 0))) fun x => .leaf (impl_Whole_over_i1_l0_X v2406 v2407 v2408 v2409 x))
  | 6 => .need (normA 0 impl_Whole_over_i1_l6_kill e L = some (impl_Whole_over_i1_l6_E v2406 v2407 v2408 v2409 (gI (vAt e 11)) (gI (vAt e 16)) (gI (vAt e 17)) (gPI L (vAt e 9) 0) (gX L (vAt e 9) 0) (gRI L (vAt e 10)) (gI (vAt e 18)))) (.call (impl_Whole_over_i1_l6_g (gI (vAt e 11)) (gI (vAt e 16)) (gI (vAt e 17)) (gPI L (vAt e 9) 0) (gX L (vAt e 9) 0) (gRI L (vAt e 10)) (gI (vAt e 18))) fun x => .leaf (impl_Whole_over_i1_l6_X v2406 v2407 v2408 v2409 (gI (vAt e 11)) (gI (vAt e 16)) (gI (vAt e 17)) (gPI L (vAt e 9) 0) (gX L (vAt e 9) 0) (gRI L (vAt e 10)) x))
  | 8 => .need (normA 0 impl_Whole_over_i1_l8_kill e L = some (impl_Whole_over_i1_l8_E v2406 v2407 v2408 v2409 (gI (vAt e 11)) (gI (vAt e 16)) (gI (vAt e 17)) (gI (vAt e 20)) (gI (vAt e 132)) (gX L (vAt e 9) 0) (gRI L (vAt e 10)) ((gI (vAt e 133)), (gPI L (vAt e 9) 0)))) (.call (impl_Whole_over_i1_l8_g v2409 (gI (vAt e 11)) (gI (vAt e 16)) (gI (vAt e 17)) (gI (vAt e 20)) (gI (vAt e 132)) (gX L (vAt e 9) 0) (gRI L (vAt e 10)) ((gI (vAt e 133)), (gPI L (vAt e 9) 0))) fun x => .leaf (impl_Whole_over_i1_l8_X v2406 v2407 v2408 v2409 (gI (vAt e 11)) (gI (vAt e 16)) (gI (vAt e 17)) (gI (vAt e 20)) (gI (vAt e 132)) (gX L (vAt e 9) 0) (gRI L (vAt e 10)) x))
  | 12 => .need (normA 0 impl_Whole_over_i1_l12_kill e L = some (impl_Whole_over_i1_l12_E v2406 v2407 v2408 v2409 (gI (vAt e 11)) (gI (vAt e 16)) (gI (vAt e 17)) (gK (vAt e 23)) (gI (vAt e 24)) (gI (vAt e 155)) (gI (vAt e 156)) (gI (vAt e 173)) (gX L (vAt e 9) 0) (gRI L (vAt e 10)) ((gI (vAt e 174)), (gPI L (vAt e 9) 0)))) (.call (impl_Whole_over_i1_l12_g v2409 (gI (vAt e 11)) (gI (vAt e 16)) (gI (vAt e 17)) (gK (vAt e 23)) (gI (vAt e 24)) (gI (vAt e 155)) (gI (vAt e 156)) (gI (vAt e 173)) (gX L (vAt e 9) 0) (gRI L (vAt e 10)) ((gI (vAt e 174)), (gPI L (vAt e 9) 0))) fun x => .leaf (impl_Whole_over_i1_l12_X v2406 v2407 v2408 v2409 (gI (vAt e 11)) (gI (vAt e 16)) (gI (vAt e 17)) (gK (vAt e 23)) (gI (vAt e 24)) (gI (vAt e 155)) (gI (vAt e 156)) (gI (vAt e 173)) (gX L (vAt e 9) 0) (gRI L (vAt e 10)) x))
  | 10 => .need (normA 0 impl_Whole_over_i1_l10_kill e L = some (impl_Whole_over_i1_l10_E v2406 v2407 v2408 v2409 (gI (vAt e 11)) (gI (vAt e 16)) (gI (vAt e 17)) (gI (vAt e 155)) (gX L (vAt e 9) 0) (gRI L (vAt e 10)) ((gI (vAt e 156)), (gPI L (vAt e 9) 0)))) (.call (impl_Whole_over_i1_l10_g v2406 v2407 v2408 v2409 (gI (vAt e 11)) (gI (vAt e 16)) (gI (vAt e 17)) (gI (vAt e 155)) (gX L (vAt e 9) 0) (gRI L (vAt e 10)) ((gI (vAt e 156)), (gPI L (vAt e 9) 0))) fun x => .leaf (impl_Whole_over_i1_l10_X v2406 v2407 v2408 v2409 (gI (vAt e 11)) (gI (vAt e 16)) (gI (vAt e 17)) (gI (vAt e 155)) (gX L (vAt e 9) 0) (gRI L (vAt e 10)) x))
  | 4 => .need (normA 0 impl_Whole_over_i1_l4_kill e L = some (impl_Whole_over_i1_l4_E v2406 v2407 v2408 v2409 ((gI (vAt e 11)), (gI (vAt e 66)), (gPI L (vAt e 9) 0), (gX L (vAt e 9) 0), (gRI L (vAt e 10))))) (.call (impl_Whole_over_i1_l4_g v2406 v2407 v2408 v2409 ((gI (vAt e 11)), (gI (vAt e 66)), (gPI L (vAt e 9) 0), (gX L (vAt e 9) 0), (gRI L (vAt e 10)))) fun x => .leaf (impl_Whole_over_i1_l4_X v2406 v2407 v2408 v2409 x))
  | _ => .fail
noncomputable def impl_Whole_over_i1_tab : List (FuncId × DFn × Bool) := [(127, impl_Whole_row_F, true), (70, impl_rest_F, true), (123, impl_backOver_F, true)]
theorem impl_Whole_over_i1_hO : OrcOk Try.prog (tabD impl_Whole_over_i1_tab) (tabM impl_Whole_over_i1_tab) := tabD_cons impl_Whole_row_Fok (tabD_cons impl_rest_Fok (tabD_cons impl_backOver_Fok (tabD_nil _)))
theorem impl_Whole_over_i1_l2_be (v2406 : Int) (v2407 : Int) (v2408 : List Int) (v2409 : Int) (v2472 : Int) (v2473 : Int) (v2475 : List (List Int)) (v2476 : List Nat) (s : Int × (List Int)) : bodyT TT (tabD impl_Whole_over_i1_tab) (tabM impl_Whole_over_i1_tab) (impl_Whole_over_i1_LO v2406 v2407 v2408 v2409) 0 impl_Whole_over_i1_l2_kill impl_Whole_over_i1_l2_nx (bodyOf Try.f64 2) 2 (impl_Whole_over_i1_l2_E v2406 v2407 v2408 v2409 v2472 v2473 v2475 v2476 s) = (impl_Whole_over_i1_l2_T v2409 v2472 v2473 v2475 v2476 s).bind fun y => .leaf (outS (impl_Whole_over_i1_l2_E v2406 v2407 v2408 v2409 v2472 v2473 v2475 v2476) (impl_Whole_over_i1_l2_X v2406 v2407 v2408 v2409 v2472 v2473 v2475 v2476) y) := by kernel_rfl
theorem impl_Whole_over_i1_l2_ok (v2406 : Int) (v2407 : Int) (v2408 : List Int) (v2409 : Int) : LSound Try.prog 0 (impl_Whole_over_i1_LO v2406 v2407 v2408 v2409) 2 (bodyOf Try.f64 2) := by
  intro e L out h
  exact lo_ok (E := impl_Whole_over_i1_l2_E v2406 v2407 v2408 v2409 (gI (vAt e 30)) (gI (vAt e 46)) (gPI L (vAt e 9) 0) (gX L (vAt e 9) 0)) (gT := impl_Whole_over_i1_l2_T v2409 (gI (vAt e 30)) (gI (vAt e 46)) (gPI L (vAt e 9) 0) (gX L (vAt e 9) 0)) (X := impl_Whole_over_i1_l2_X v2406 v2407 v2408 v2409 (gI (vAt e 30)) (gI (vAt e 46)) (gPI L (vAt e 9) 0) (gX L (vAt e 9) 0)) (s0 := ((gI (vAt e 47)), (gRI L (vAt e 13)))) tok impl_Whole_over_i1_hO mixed (LoopsOk_eq (l := []) (by kernel_rfl) trivial) (impl_Whole_over_i1_l2_be v2406 v2407 v2408 v2409 (gI (vAt e 30)) (gI (vAt e 46)) (gPI L (vAt e 9) 0) (gX L (vAt e 9) 0)) rfl (by intro x; rfl) h
theorem impl_Whole_over_i1_l0_be (v2406 : Int) (v2407 : Int) (v2408 : List Int) (v2409 : Int) (s : Int × (List (List Int)) × (List Nat)) : bodyT TT (tabD impl_Whole_over_i1_tab) (tabM impl_Whole_over_i1_tab) (impl_Whole_over_i1_LO v2406 v2407 v2408 v2409) 0 impl_Whole_over_i1_l0_kill impl_Whole_over_i1_l0_nx (bodyOf Try.f64 0) 0 (impl_Whole_over_i1_l0_E v2406 v2407 v2408 v2409 s) = (impl_Whole_over_i1_l0_T v2406 v2407 v2408 v2409 s).bind fun y => .leaf (outS (impl_Whole_over_i1_l0_E v2406 v2407 v2408 v2409) (impl_Whole_over_i1_l0_X v2406 v2407 v2408 v2409) y) := by kernel_rfl
theorem impl_Whole_over_i1_l0_ok (v2406 : Int) (v2407 : Int) (v2408 : List Int) (v2409 : Int) : LSound Try.prog 0 (impl_Whole_over_i1_LO v2406 v2407 v2408 v2409) 0 (bodyOf Try.f64 0) := by
  intro e L out h
  exact lo_ok (E := impl_Whole_over_i1_l0_E v2406 v2407 v2408 v2409) (gT := impl_Whole_over_i1_l0_T v2406 v2407 v2408 v2409) (X := impl_Whole_over_i1_l0_X v2406 v2407 v2408 v2409) (s0 := ((gI (vAt e 30)), (gPI L (vAt e 9) 0), (gX L (vAt e 9) 0))) tok impl_Whole_over_i1_hO mixed (LoopsOk_eq (l := [(2, bodyOf Try.f64 2)]) (by kernel_rfl) ⟨impl_Whole_over_i1_l2_ok v2406 v2407 v2408 v2409, trivial⟩) (impl_Whole_over_i1_l0_be v2406 v2407 v2408 v2409) rfl (by intro x; rfl) h
theorem impl_Whole_over_i1_l6_be (v2406 : Int) (v2407 : Int) (v2408 : List Int) (v2409 : Int) (v3185 : Int) (v3186 : Int) (v3187 : Int) (v3189 : List (List Int)) (v3190 : List Nat) (v3191 : List Int) (s : Int) : bodyT TT (tabD impl_Whole_over_i1_tab) (tabM impl_Whole_over_i1_tab) (impl_Whole_over_i1_LO v2406 v2407 v2408 v2409) 0 impl_Whole_over_i1_l6_kill impl_Whole_over_i1_l6_nx (bodyOf Try.f64 6) 6 (impl_Whole_over_i1_l6_E v2406 v2407 v2408 v2409 v3185 v3186 v3187 v3189 v3190 v3191 s) = (impl_Whole_over_i1_l6_T v3185 v3186 v3187 v3189 v3190 v3191 s).bind fun y => .leaf (outS (impl_Whole_over_i1_l6_E v2406 v2407 v2408 v2409 v3185 v3186 v3187 v3189 v3190 v3191) (impl_Whole_over_i1_l6_X v2406 v2407 v2408 v2409 v3185 v3186 v3187 v3189 v3190 v3191) y) := by kernel_rfl
theorem impl_Whole_over_i1_l6_ok (v2406 : Int) (v2407 : Int) (v2408 : List Int) (v2409 : Int) : LSound Try.prog 0 (impl_Whole_over_i1_LO v2406 v2407 v2408 v2409) 6 (bodyOf Try.f64 6) := by
  intro e L out h
  exact lo_ok (E := impl_Whole_over_i1_l6_E v2406 v2407 v2408 v2409 (gI (vAt e 11)) (gI (vAt e 16)) (gI (vAt e 17)) (gPI L (vAt e 9) 0) (gX L (vAt e 9) 0) (gRI L (vAt e 10))) (gT := impl_Whole_over_i1_l6_T (gI (vAt e 11)) (gI (vAt e 16)) (gI (vAt e 17)) (gPI L (vAt e 9) 0) (gX L (vAt e 9) 0) (gRI L (vAt e 10))) (X := impl_Whole_over_i1_l6_X v2406 v2407 v2408 v2409 (gI (vAt e 11)) (gI (vAt e 16)) (gI (vAt e 17)) (gPI L (vAt e 9) 0) (gX L (vAt e 9) 0) (gRI L (vAt e 10))) (s0 := (gI (vAt e 18))) tok impl_Whole_over_i1_hO mixed (LoopsOk_eq (l := []) (by kernel_rfl) trivial) (impl_Whole_over_i1_l6_be v2406 v2407 v2408 v2409 (gI (vAt e 11)) (gI (vAt e 16)) (gI (vAt e 17)) (gPI L (vAt e 9) 0) (gX L (vAt e 9) 0) (gRI L (vAt e 10))) rfl (by intro x; rfl) h
theorem impl_Whole_over_i1_l8_be (v2406 : Int) (v2407 : Int) (v2408 : List Int) (v2409 : Int) (v3213 : Int) (v3214 : Int) (v3215 : Int) (v3216 : Int) (v3217 : Int) (v3220 : List Nat) (v3221 : List Int) (s : Int × (List (List Int))) : bodyT TT (tabD impl_Whole_over_i1_tab) (tabM impl_Whole_over_i1_tab) (impl_Whole_over_i1_LO v2406 v2407 v2408 v2409) 0 impl_Whole_over_i1_l8_kill impl_Whole_over_i1_l8_nx (bodyOf Try.f64 8) 8 (impl_Whole_over_i1_l8_E v2406 v2407 v2408 v2409 v3213 v3214 v3215 v3216 v3217 v3220 v3221 s) = (impl_Whole_over_i1_l8_T v2409 v3213 v3214 v3215 v3216 v3217 v3220 v3221 s).bind fun y => .leaf (outS (impl_Whole_over_i1_l8_E v2406 v2407 v2408 v2409 v3213 v3214 v3215 v3216 v3217 v3220 v3221) (impl_Whole_over_i1_l8_X v2406 v2407 v2408 v2409 v3213 v3214 v3215 v3216 v3217 v3220 v3221) y) := by kernel_rfl
theorem impl_Whole_over_i1_l8_ok (v2406 : Int) (v2407 : Int) (v2408 : List Int) (v2409 : Int) : LSound Try.prog 0 (impl_Whole_over_i1_LO v2406 v2407 v2408 v2409) 8 (bodyOf Try.f64 8) := by
  intro e L out h
  exact lo_ok (E := impl_Whole_over_i1_l8_E v2406 v2407 v2408 v2409 (gI (vAt e 11)) (gI (vAt e 16)) (gI (vAt e 17)) (gI (vAt e 20)) (gI (vAt e 132)) (gX L (vAt e 9) 0) (gRI L (vAt e 10))) (gT := impl_Whole_over_i1_l8_T v2409 (gI (vAt e 11)) (gI (vAt e 16)) (gI (vAt e 17)) (gI (vAt e 20)) (gI (vAt e 132)) (gX L (vAt e 9) 0) (gRI L (vAt e 10))) (X := impl_Whole_over_i1_l8_X v2406 v2407 v2408 v2409 (gI (vAt e 11)) (gI (vAt e 16)) (gI (vAt e 17)) (gI (vAt e 20)) (gI (vAt e 132)) (gX L (vAt e 9) 0) (gRI L (vAt e 10))) (s0 := ((gI (vAt e 133)), (gPI L (vAt e 9) 0))) tok impl_Whole_over_i1_hO mixed (LoopsOk_eq (l := []) (by kernel_rfl) trivial) (impl_Whole_over_i1_l8_be v2406 v2407 v2408 v2409 (gI (vAt e 11)) (gI (vAt e 16)) (gI (vAt e 17)) (gI (vAt e 20)) (gI (vAt e 132)) (gX L (vAt e 9) 0) (gRI L (vAt e 10))) rfl (by intro x; rfl) h
theorem impl_Whole_over_i1_l12_be (v2406 : Int) (v2407 : Int) (v2408 : List Int) (v2409 : Int) (v3353 : Int) (v3354 : Int) (v3355 : Int) (v3356 : Nat) (v3357 : Int) (v3358 : Int) (v3359 : Int) (v3360 : Int) (v3363 : List Nat) (v3364 : List Int) (s : Int × (List (List Int))) : bodyT TT (tabD impl_Whole_over_i1_tab) (tabM impl_Whole_over_i1_tab) (impl_Whole_over_i1_LO v2406 v2407 v2408 v2409) 0 impl_Whole_over_i1_l12_kill impl_Whole_over_i1_l12_nx (bodyOf Try.f64 12) 12 (impl_Whole_over_i1_l12_E v2406 v2407 v2408 v2409 v3353 v3354 v3355 v3356 v3357 v3358 v3359 v3360 v3363 v3364 s) = (impl_Whole_over_i1_l12_T v2409 v3353 v3354 v3355 v3356 v3357 v3358 v3359 v3360 v3363 v3364 s).bind fun y => .leaf (outS (impl_Whole_over_i1_l12_E v2406 v2407 v2408 v2409 v3353 v3354 v3355 v3356 v3357 v3358 v3359 v3360 v3363 v3364) (impl_Whole_over_i1_l12_X v2406 v2407 v2408 v2409 v3353 v3354 v3355 v3356 v3357 v3358 v3359 v3360 v3363 v3364) y) := by kernel_rfl
theorem impl_Whole_over_i1_l12_ok (v2406 : Int) (v2407 : Int) (v2408 : List Int) (v2409 : Int) : LSound Try.prog 0 (impl_Whole_over_i1_LO v2406 v2407 v2408 v2409) 12 (bodyOf Try.f64 12) := by
  intro e L out h
  exact lo_ok (E := impl_Whole_over_i1_l12_E v2406 v2407 v2408 v2409 (gI (vAt e 11)) (gI (vAt e 16)) (gI (vAt e 17)) (gK (vAt e 23)) (gI (vAt e 24)) (gI (vAt e 155)) (gI (vAt e 156)) (gI (vAt e 173)) (gX L (vAt e 9) 0) (gRI L (vAt e 10))) (gT := impl_Whole_over_i1_l12_T v2409 (gI (vAt e 11)) (gI (vAt e 16)) (gI (vAt e 17)) (gK (vAt e 23)) (gI (vAt e 24)) (gI (vAt e 155)) (gI (vAt e 156)) (gI (vAt e 173)) (gX L (vAt e 9) 0) (gRI L (vAt e 10))) (X := impl_Whole_over_i1_l12_X v2406 v2407 v2408 v2409 (gI (vAt e 11)) (gI (vAt e 16)) (gI (vAt e 17)) (gK (vAt e 23)) (gI (vAt e 24)) (gI (vAt e 155)) (gI (vAt e 156)) (gI (vAt e 173)) (gX L (vAt e 9) 0) (gRI L (vAt e 10))) (s0 := ((gI (vAt e 174)), (gPI L (vAt e 9) 0))) tok impl_Whole_over_i1_hO mixed (LoopsOk_eq (l := []) (by kernel_rfl) trivial) (impl_Whole_over_i1_l12_be v2406 v2407 v2408 v2409 (gI (vAt e 11)) (gI (vAt e 16)) (gI (vAt e 17)) (gK (vAt e 23)) (gI (vAt e 24)) (gI (vAt e 155)) (gI (vAt e 156)) (gI (vAt e 173)) (gX L (vAt e 9) 0) (gRI L (vAt e 10))) rfl (by intro x; rfl) h
theorem impl_Whole_over_i1_l10_be (v2406 : Int) (v2407 : Int) (v2408 : List Int) (v2409 : Int) (v3319 : Int) (v3320 : Int) (v3321 : Int) (v3322 : Int) (v3325 : List Nat) (v3326 : List Int) (s : Int × (List (List Int))) : bodyT TT (tabD impl_Whole_over_i1_tab) (tabM impl_Whole_over_i1_tab) (impl_Whole_over_i1_LO v2406 v2407 v2408 v2409) 0 impl_Whole_over_i1_l10_kill impl_Whole_over_i1_l10_nx (bodyOf Try.f64 10) 10 (impl_Whole_over_i1_l10_E v2406 v2407 v2408 v2409 v3319 v3320 v3321 v3322 v3325 v3326 s) = (impl_Whole_over_i1_l10_T v2406 v2407 v2408 v2409 v3319 v3320 v3321 v3322 v3325 v3326 s).bind fun y => .leaf (outS (impl_Whole_over_i1_l10_E v2406 v2407 v2408 v2409 v3319 v3320 v3321 v3322 v3325 v3326) (impl_Whole_over_i1_l10_X v2406 v2407 v2408 v2409 v3319 v3320 v3321 v3322 v3325 v3326) y) := by kernel_rfl
theorem impl_Whole_over_i1_l10_ok (v2406 : Int) (v2407 : Int) (v2408 : List Int) (v2409 : Int) : LSound Try.prog 0 (impl_Whole_over_i1_LO v2406 v2407 v2408 v2409) 10 (bodyOf Try.f64 10) := by
  intro e L out h
  exact lo_ok (E := impl_Whole_over_i1_l10_E v2406 v2407 v2408 v2409 (gI (vAt e 11)) (gI (vAt e 16)) (gI (vAt e 17)) (gI (vAt e 155)) (gX L (vAt e 9) 0) (gRI L (vAt e 10))) (gT := impl_Whole_over_i1_l10_T v2406 v2407 v2408 v2409 (gI (vAt e 11)) (gI (vAt e 16)) (gI (vAt e 17)) (gI (vAt e 155)) (gX L (vAt e 9) 0) (gRI L (vAt e 10))) (X := impl_Whole_over_i1_l10_X v2406 v2407 v2408 v2409 (gI (vAt e 11)) (gI (vAt e 16)) (gI (vAt e 17)) (gI (vAt e 155)) (gX L (vAt e 9) 0) (gRI L (vAt e 10))) (s0 := ((gI (vAt e 156)), (gPI L (vAt e 9) 0))) tok impl_Whole_over_i1_hO mixed (LoopsOk_eq (l := [(12, bodyOf Try.f64 12)]) (by kernel_rfl) ⟨impl_Whole_over_i1_l12_ok v2406 v2407 v2408 v2409, trivial⟩) (impl_Whole_over_i1_l10_be v2406 v2407 v2408 v2409 (gI (vAt e 11)) (gI (vAt e 16)) (gI (vAt e 17)) (gI (vAt e 155)) (gX L (vAt e 9) 0) (gRI L (vAt e 10))) rfl (by intro x; rfl) h
theorem impl_Whole_over_i1_l4_be (v2406 : Int) (v2407 : Int) (v2408 : List Int) (v2409 : Int) (s : Int × Int × (List (List Int)) × (List Nat) × (List Int)) : bodyT TT (tabD impl_Whole_over_i1_tab) (tabM impl_Whole_over_i1_tab) (impl_Whole_over_i1_LO v2406 v2407 v2408 v2409) 0 impl_Whole_over_i1_l4_kill impl_Whole_over_i1_l4_nx (bodyOf Try.f64 4) 4 (impl_Whole_over_i1_l4_E v2406 v2407 v2408 v2409 s) = (impl_Whole_over_i1_l4_T v2406 v2407 v2408 v2409 s).bind fun y => .leaf (outS (impl_Whole_over_i1_l4_E v2406 v2407 v2408 v2409) (impl_Whole_over_i1_l4_X v2406 v2407 v2408 v2409) y) := by kernel_rfl
theorem impl_Whole_over_i1_l4_ok (v2406 : Int) (v2407 : Int) (v2408 : List Int) (v2409 : Int) : LSound Try.prog 0 (impl_Whole_over_i1_LO v2406 v2407 v2408 v2409) 4 (bodyOf Try.f64 4) := by
  intro e L out h
  exact lo_ok (E := impl_Whole_over_i1_l4_E v2406 v2407 v2408 v2409) (gT := impl_Whole_over_i1_l4_T v2406 v2407 v2408 v2409) (X := impl_Whole_over_i1_l4_X v2406 v2407 v2408 v2409) (s0 := ((gI (vAt e 11)), (gI (vAt e 66)), (gPI L (vAt e 9) 0), (gX L (vAt e 9) 0), (gRI L (vAt e 10)))) tok impl_Whole_over_i1_hO mixed (LoopsOk_eq (l := [(6, bodyOf Try.f64 6), (8, bodyOf Try.f64 8), (10, bodyOf Try.f64 10)]) (by kernel_rfl) ⟨impl_Whole_over_i1_l6_ok v2406 v2407 v2408 v2409, impl_Whole_over_i1_l8_ok v2406 v2407 v2408 v2409, impl_Whole_over_i1_l10_ok v2406 v2407 v2408 v2409, trivial⟩) (impl_Whole_over_i1_l4_be v2406 v2407 v2408 v2409) rfl (by intro x; rfl) h
noncomputable def impl_Whole_over_i1_T (v2406 : Int) (v2407 : Int) (v2408 : List Int) (v2409 : Int) : Tree (Int × (List (List Int)) × (List Nat) × (List Int)) :=
  (.need (some (impl_Whole_over_i1_l0_E v2406 v2407 v2408 v2409 ((0 : Int), ([] : List (List Int)), ([] : List Nat))) = some (impl_Whole_over_i1_l0_E v2406 v2407 v2408 v2409 ((0 : Int), ([] : List (List Int)), ([] : List Nat)))) <|
  (.call (impl_Whole_over_i1_l0_g v2406 v2407 v2408 v2409 ((0 : Int), ([] : List (List Int)), ([] : List Nat))) fun v2480 =>
  (.need (some (impl_Whole_over_i1_l4_E v2406 v2407 v2408 v2409 ((1 : Int), (0 : Int), v2480.1, v2480.2, ([] : List Int))) = some (impl_Whole_over_i1_l4_E v2406 v2407 v2408 v2409 ((1 : Int), (0 : Int), v2480.1, v2480.2, ([] : List Int)))) <|
  (.call (impl_Whole_over_i1_l4_g v2406 v2407 v2408 v2409 ((1 : Int), (0 : Int), v2480.1, v2480.2, ([] : List Int))) fun v3542 =>
  .leaf (v3542.1, v3542.2.1, v3542.2.2.1, v3542.2.2.2)))))

noncomputable def impl_Whole_over_i1_g (v2406 : Int) (v2407 : Int) (v2408 : List Int) (v2409 : Int) : Option (Int × (List (List Int)) × (List Nat) × (List Int)) := (impl_Whole_over_i1_T v2406 v2407 v2408 v2409).run
def impl_Whole_over_i1_enc (v2406 : Int) (v2407 : Int) (v2408 : List Int) (v2409 : Int) (y : Int × (List (List Int)) × (List Nat) × (List Int)) : Rs := (.tup [.nest 0 0 1 ((y.2.2.1).length), .own 1 0 ((y.2.2.2).length), .int .i64 y.1], [.nest [.sl (.i64 y.2.1) y.2.2.1] false 0, .row (.i64 y.2.2.2) 0])
theorem impl_Whole_over_i1_den (v2406 : Int) (v2407 : Int) (v2408 : List Int) (v2409 : Int) : (den TT (tabD impl_Whole_over_i1_tab) (tabM impl_Whole_over_i1_tab) (impl_Whole_over_i1_LO v2406 v2407 v2408 v2409) (codeOf Try.f64) ([.agg [.int .i64 v2406, .int .i64 v2407, .bslc (BR.root 0) (.i64 v2408)], .int .i64 v2409, .nilslc] ++ List.replicate (Try.f64.ntmps - ([.agg [.int .i64 v2406, .int .i64 v2407, .bslc (BR.root 0) (.i64 v2408)], .int .i64 v2409, .nilslc] : List DV).length) .undef) []).bind (retD TT Try.f64.results.toList 0) = (impl_Whole_over_i1_T v2406 v2407 v2408 v2409).bind fun y => .leaf (impl_Whole_over_i1_enc v2406 v2407 v2408 v2409 y) := by kernel_rfl
theorem impl_Whole_over_i1_fn (v2406 : Int) (v2407 : Int) (v2408 : List Int) (v2409 : Int) (F : Fr) (h0 : St F [] F.H0) (hA : DVs.Ok F [] [.agg [.int .i64 v2406, .int .i64 v2407, .bslc (BR.root 0) (.i64 v2408)], .int .i64 v2409, .nilslc]) {y : Int × (List (List Int)) × (List Nat) × (List Int)} (hy : impl_Whole_over_i1_g v2406 v2407 v2408 v2409 = some y) : ∃ F' H', Fwd 0 F F' [] (impl_Whole_over_i1_enc v2406 v2407 v2408 v2409 y).2 ∧ FnOk Try.prog 64 (DVs.av F [.agg [.int .i64 v2406, .int .i64 v2407, .bslc (BR.root 0) (.i64 v2408)], .int .i64 v2409, .nilslc]) F.H0 ((impl_Whole_over_i1_enc v2406 v2407 v2408 v2409 y).1.av F') H' ∧ St F' (impl_Whole_over_i1_enc v2406 v2407 v2408 v2409 y).2 H' ∧ (impl_Whole_over_i1_enc v2406 v2407 v2408 v2409 y).1.Ok F' (impl_Whole_over_i1_enc v2406 v2407 v2408 v2409 y).2 :=
  fn_fin tok impl_Whole_over_i1_hO mixed Try.func64 Try.call64 (by kernel_rfl) (LoopsOk_eq (l := [(0, bodyOf Try.f64 0), (4, bodyOf Try.f64 4)]) (by kernel_rfl) ⟨impl_Whole_over_i1_l0_ok v2406 v2407 v2408 v2409, impl_Whole_over_i1_l4_ok v2406 v2407 v2408 v2409, trivial⟩) (impl_Whole_over_i1_den v2406 v2407 v2408 v2409) hy h0 hA
noncomputable def impl_Whole_over_i1_F : DFn := fun args L =>
  match args with
  | [.agg [.int .i64 v2406, .int .i64 v2407, a1], .int .i64 v2409, .nilslc] =>
    optT (rowI64 L a1) fun v2408 =>
    .call (impl_Whole_over_i1_g v2406 v2407 v2408 v2409) fun y => .leaf (.tup [.nest (L.length + 0) 0 1 ((y.2.2.1).length), .own (L.length + 1) 0 ((y.2.2.2).length), .int .i64 y.1], L ++ [.nest [.sl (.i64 y.2.1) y.2.2.1] false 0, .row (.i64 y.2.2.2) 0])
  | _ => .fail
theorem impl_Whole_over_i1_Fok : COk Try.prog 64 impl_Whole_over_i1_F true := by
  intro F L H args r L' hs ha hr
  unfold impl_Whole_over_i1_F at hr
  split at hr
  · rename_i v2406 v2407 a1 v2409
    obtain ⟨v2408, hv2408, hr⟩ := optT_run hr
    simp only [Tree.run] at hr
    obtain ⟨y, hy, hr⟩ := Option.bind_eq_some_iff.1 hr
    simp only [Tree.run, Option.some.injEq, Prod.mk.injEq] at hr
    obtain ⟨rfl, rfl⟩ := hr
    exact call_ok1 hs (fun k => (([a1.av F] : List AV)[k]?).getD .top) [.agg [.int .i64 v2406, .int .i64 v2407, a1], .int .i64 v2409, .nilslc] [.agg [.int .i64 v2406, .int .i64 v2407, .bslc (BR.root 0) (.i64 v2408)], .int .i64 v2409, .nilslc] (fun F' h0 hi hρ => ⟨by simp [DVs.av, DV.av, BR.av, hρ], impl_Whole_over_i1_fn v2406 v2407 v2408 v2409 F' (st_nil hi) ⟨⟨trivial, trivial, bslc_ok hi (by rw [h0, hρ]; exact rowI64_ok hs (DVs.okAt (DVs.okAt ha 0 rfl) 2 rfl) hv2408), trivial⟩, trivial, trivial, trivial⟩ hy⟩) rfl rfl
  · cases hr
/-! slices.Index[list of int64,int64] -/
noncomputable def slices_IndexI_l0_T (v3550 : List Int) (v3551 : Int) (s : Int) : Tree ((Int) ⊕ ((Int) ⊕ (Unit))) :=
  (.br (decide (s < ((v3550.length : Nat) : Int))) (
   (.grd (inb s v3550.length) <|
   (.br (decide (v3551 = nth v3550 (Int.toNat s))) (
    .leaf (.inr (.inl s))
   ) (
    .leaf (.inl (IntKind.i64.wrap (s + (1 : Int))))
   )))
  ) (
   .leaf (.inr (.inr ()))
  ))

noncomputable def slices_IndexI_l0_g (v3550 : List Int) (v3551 : Int) (s0 : Int) : Option ((Int) ⊕ (Unit)) := whileM (fun s => (slices_IndexI_l0_T v3550 v3551 s).run) s0
def slices_IndexI_l0_E (v3550 : List Int) (v3551 : Int) (s : Int) : Sd := ([.bslc (BR.root 0) (.i64 v3550),.int .i64 v3551,tp,tp,tp,tp,tp,.int .i64 ((v3550.length : Nat) : Int),.int .i64 s,tp,tp,tp,tp,tp,tp,tp,tp,tp,tp], [])
def slices_IndexI_l0_X (v3550 : List Int) (v3551 : Int) (x : (Int) ⊕ (Unit)) : Out := (match x with | .inl x => (.ret, [tp,tp,tp,tp,.int .i64 x,tp,tp,tp,tp,tp,tp,tp,tp,tp,tp,tp,tp,tp,tp], []) | .inr x => (.normal, [tp,tp,tp,tp,tp,tp,tp,tp,tp,tp,tp,tp,tp,tp,tp,tp,tp,tp,tp], []))
def slices_IndexI_l0_kill : List Nat := KL true [0,2,5,2,10]
def slices_IndexI_l0_nx : Exit → List Nat
  | .exit 0 => KL true [19]
  | .ret => KL true [4,1,14]
  | _ => []
noncomputable def slices_IndexI_LO (v3550 : List Int) (v3551 : Int) : LOr := fun id e L =>
  match id with
  | 0 => .need (normA 0 slices_IndexI_l0_kill e L = some (slices_IndexI_l0_E v3550 v3551 (gI (vAt e 8)))) (.call (slices_IndexI_l0_g v3550 v3551 (gI (vAt e 8))) fun x => .sum x (fun b0 => .leaf (slices_IndexI_l0_X v3550 v3551 (.inl b0))) (fun c0 => .leaf (slices_IndexI_l0_X v3550 v3551 (.inr c0))))
  | _ => .fail
noncomputable def slices_IndexI_tab : List (FuncId × DFn × Bool) := []
theorem slices_IndexI_hO : OrcOk Try.prog (tabD slices_IndexI_tab) (tabM slices_IndexI_tab) := tabD_nil _
theorem slices_IndexI_l0_be (v3550 : List Int) (v3551 : Int) (s : Int) : bodyT TT (tabD slices_IndexI_tab) (tabM slices_IndexI_tab) (slices_IndexI_LO v3550 v3551) 0 slices_IndexI_l0_kill slices_IndexI_l0_nx (bodyOf Try.f130 0) 0 (slices_IndexI_l0_E v3550 v3551 s) = (slices_IndexI_l0_T v3550 v3551 s).bind fun y => .leaf (outS (slices_IndexI_l0_E v3550 v3551) (slices_IndexI_l0_X v3550 v3551) y) := by kernel_rfl
theorem slices_IndexI_l0_ok (v3550 : List Int) (v3551 : Int) : LSound Try.prog 0 (slices_IndexI_LO v3550 v3551) 0 (bodyOf Try.f130 0) := by
  intro e L out h
  exact lo_ok (E := slices_IndexI_l0_E v3550 v3551) (gT := slices_IndexI_l0_T v3550 v3551) (X := slices_IndexI_l0_X v3550 v3551) (s0 := (gI (vAt e 8))) tok slices_IndexI_hO mixed (LoopsOk_eq (l := []) (by kernel_rfl) trivial) (slices_IndexI_l0_be v3550 v3551) rfl (by intro x; (cases x with | inl b => rfl | inr x => exact rfl)) h
noncomputable def slices_IndexI_T (v3550 : List Int) (v3551 : Int) : Tree (Int) :=
  (.need (some (slices_IndexI_l0_E v3550 v3551 (0 : Int)) = some (slices_IndexI_l0_E v3550 v3551 (0 : Int))) <|
  (.call (slices_IndexI_l0_g v3550 v3551 (0 : Int)) fun v3555 =>
  (.sum v3555 (fun v3556 =>
   .leaf v3556
  ) (fun v3557 =>
   .leaf (-1 : Int)
  ))))

noncomputable def slices_IndexI_g (v3550 : List Int) (v3551 : Int) : Option (Int) := (slices_IndexI_T v3550 v3551).run
def slices_IndexI_enc (v3550 : List Int) (v3551 : Int) (y : Int) : Rs := (.int .i64 y, [])
theorem slices_IndexI_den (v3550 : List Int) (v3551 : Int) : (den TT (tabD slices_IndexI_tab) (tabM slices_IndexI_tab) (slices_IndexI_LO v3550 v3551) (codeOf Try.f130) ([.bslc (BR.root 0) (.i64 v3550), .int .i64 v3551] ++ List.replicate (Try.f130.ntmps - ([.bslc (BR.root 0) (.i64 v3550), .int .i64 v3551] : List DV).length) .undef) []).bind (retD TT Try.f130.results.toList 0) = (slices_IndexI_T v3550 v3551).bind fun y => .leaf (slices_IndexI_enc v3550 v3551 y) := by kernel_rfl
theorem slices_IndexI_fn (v3550 : List Int) (v3551 : Int) (F : Fr) (h0 : St F [] F.H0) (hA : DVs.Ok F [] [.bslc (BR.root 0) (.i64 v3550), .int .i64 v3551]) {y : Int} (hy : slices_IndexI_g v3550 v3551 = some y) : ∃ F' H', Fwd 0 F F' [] (slices_IndexI_enc v3550 v3551 y).2 ∧ FnOk Try.prog 130 (DVs.av F [.bslc (BR.root 0) (.i64 v3550), .int .i64 v3551]) F.H0 ((slices_IndexI_enc v3550 v3551 y).1.av F') H' ∧ St F' (slices_IndexI_enc v3550 v3551 y).2 H' ∧ (slices_IndexI_enc v3550 v3551 y).1.Ok F' (slices_IndexI_enc v3550 v3551 y).2 :=
  fn_fin tok slices_IndexI_hO mixed Try.func130 Try.call130 (by kernel_rfl) (LoopsOk_eq (l := [(0, bodyOf Try.f130 0)]) (by kernel_rfl) ⟨slices_IndexI_l0_ok v3550 v3551, trivial⟩) (slices_IndexI_den v3550 v3551) hy h0 hA
noncomputable def slices_IndexI_F : DFn := fun args L =>
  match args with
  | [a1, .int .i64 v3551] =>
    optT (rowI64 L a1) fun v3550 =>
    .call (slices_IndexI_g v3550 v3551) fun y => .leaf (.int .i64 y, L)
  | _ => .fail
theorem slices_IndexI_Fok : COk Try.prog 130 slices_IndexI_F true := by
  intro F L H args r L' hs ha hr
  unfold slices_IndexI_F at hr
  split at hr
  · rename_i a1 v3551
    obtain ⟨v3550, hv3550, hr⟩ := optT_run hr
    simp only [Tree.run] at hr
    obtain ⟨y, hy, hr⟩ := Option.bind_eq_some_iff.1 hr
    simp only [Tree.run, Option.some.injEq, Prod.mk.injEq] at hr
    obtain ⟨rfl, rfl⟩ := hr
    exact call_ok0 hs (fun k => (([a1.av F] : List AV)[k]?).getD .top) [a1, .int .i64 v3551] [.bslc (BR.root 0) (.i64 v3550), .int .i64 v3551] (fun F' h0 hi hρ => ⟨by simp [DVs.av, DV.av, BR.av, hρ], slices_IndexI_fn v3550 v3551 F' (st_nil hi) ⟨bslc_ok hi (by rw [h0, hρ]; exact rowI64_ok hs (DVs.okAt ha 0 rfl) hv3550), trivial, trivial⟩ hy⟩) rfl
  · cases hr
/-! slices.Contains[list of int64,int64] -/
noncomputable def slices_ContainsI_LO (v3548 : List Int) (v3549 : Int) : LOr := fun id e L =>
  match id with
  | _ => .fail
noncomputable def slices_ContainsI_tab : List (FuncId × DFn × Bool) := [(130, slices_IndexI_F, true)]
theorem slices_ContainsI_hO : OrcOk Try.prog (tabD slices_ContainsI_tab) (tabM slices_ContainsI_tab) := tabD_cons slices_IndexI_Fok (tabD_nil _)
noncomputable def slices_ContainsI_T (v3548 : List Int) (v3549 : Int) : Tree (Bool) :=
  (.call (slices_IndexI_g v3548 v3549) fun v3558 =>
  .leaf (decide ((0 : Int) ≤ v3558)))

noncomputable def slices_ContainsI_g (v3548 : List Int) (v3549 : Int) : Option (Bool) := (slices_ContainsI_T v3548 v3549).run
def slices_ContainsI_enc (v3548 : List Int) (v3549 : Int) (y : Bool) : Rs := (.bool y, [])
theorem slices_ContainsI_den (v3548 : List Int) (v3549 : Int) : (den TT (tabD slices_ContainsI_tab) (tabM slices_ContainsI_tab) (slices_ContainsI_LO v3548 v3549) (codeOf Try.f69) ([.bslc (BR.root 0) (.i64 v3548), .int .i64 v3549] ++ List.replicate (Try.f69.ntmps - ([.bslc (BR.root 0) (.i64 v3548), .int .i64 v3549] : List DV).length) .undef) []).bind (retD TT Try.f69.results.toList 0) = (slices_ContainsI_T v3548 v3549).bind fun y => .leaf (slices_ContainsI_enc v3548 v3549 y) := by kernel_rfl
theorem slices_ContainsI_fn (v3548 : List Int) (v3549 : Int) (F : Fr) (h0 : St F [] F.H0) (hA : DVs.Ok F [] [.bslc (BR.root 0) (.i64 v3548), .int .i64 v3549]) {y : Bool} (hy : slices_ContainsI_g v3548 v3549 = some y) : ∃ F' H', Fwd 0 F F' [] (slices_ContainsI_enc v3548 v3549 y).2 ∧ FnOk Try.prog 69 (DVs.av F [.bslc (BR.root 0) (.i64 v3548), .int .i64 v3549]) F.H0 ((slices_ContainsI_enc v3548 v3549 y).1.av F') H' ∧ St F' (slices_ContainsI_enc v3548 v3549 y).2 H' ∧ (slices_ContainsI_enc v3548 v3549 y).1.Ok F' (slices_ContainsI_enc v3548 v3549 y).2 :=
  fn_fin tok slices_ContainsI_hO mixed Try.func69 Try.call69 (by kernel_rfl) (LoopsOk_eq (l := []) (by kernel_rfl) trivial) (slices_ContainsI_den v3548 v3549) hy h0 hA
noncomputable def slices_ContainsI_F : DFn := fun args L =>
  match args with
  | [a1, .int .i64 v3549] =>
    optT (rowI64 L a1) fun v3548 =>
    .call (slices_ContainsI_g v3548 v3549) fun y => .leaf (.bool y, L)
  | _ => .fail
theorem slices_ContainsI_Fok : COk Try.prog 69 slices_ContainsI_F true := by
  intro F L H args r L' hs ha hr
  unfold slices_ContainsI_F at hr
  split at hr
  · rename_i a1 v3549
    obtain ⟨v3548, hv3548, hr⟩ := optT_run hr
    simp only [Tree.run] at hr
    obtain ⟨y, hy, hr⟩ := Option.bind_eq_some_iff.1 hr
    simp only [Tree.run, Option.some.injEq, Prod.mk.injEq] at hr
    obtain ⟨rfl, rfl⟩ := hr
    exact call_ok0 hs (fun k => (([a1.av F] : List AV)[k]?).getD .top) [a1, .int .i64 v3549] [.bslc (BR.root 0) (.i64 v3548), .int .i64 v3549] (fun F' h0 hi hρ => ⟨by simp [DVs.av, DV.av, BR.av, hρ], slices_ContainsI_fn v3548 v3549 F' (st_nil hi) ⟨bslc_ok hi (by rw [h0, hρ]; exact rowI64_ok hs (DVs.okAt ha 0 rfl) hv3548), trivial, trivial⟩ hy⟩) rfl
  · cases hr
/-! impl.NullOver -/
noncomputable def impl_NullOver_l2_T (v1207 : Int) (v3650 : Int) (v3651 : Int) (v3653 : List (List Int)) (v3654 : List Nat) (v3655 : List Int) (v3656 : List (List Int)) (v3657 : List Nat) (s : Int × (List Int)) : Tree ((Int × (List Int)) ⊕ ((List Int))) :=
  (.br (decide (s.1 < v3651)) (
   (.grd (inb s.1 ((v3655).length)) <|
   (.grd (inb s.1 ((v3654).length)) <|
   (.grd (inb v3650 ((nget v3653 (nth v3654 (Int.toNat s.1))).length)) <|
   (.call (impl_rest_g (IntKind.i64.wrap (0 - (nth (nget v3653 (nth v3654 (Int.toNat s.1))) (Int.toNat v3650)))) v1207) fun v3659 =>
   (.grd (inb (nth v3655 (Int.toNat s.1)) ((s.2).length)) <|
   .leaf (.inl (IntKind.i64.wrap (s.1 + (1 : Int)), List.set s.2 (Int.toNat (nth v3655 (Int.toNat s.1))) v3659)))))))
  ) (
   .leaf (.inr s.2)
  ))

noncomputable def impl_NullOver_l2_g (v1207 : Int) (v3650 : Int) (v3651 : Int) (v3653 : List (List Int)) (v3654 : List Nat) (v3655 : List Int) (v3656 : List (List Int)) (v3657 : List Nat) (s0 : Int × (List Int)) : Option ((List Int)) := whileM (fun s => (impl_NullOver_l2_T v1207 v3650 v3651 v3653 v3654 v3655 v3656 v3657 s).run) s0
def impl_NullOver_l2_E (v1204 : Int) (v1205 : Int) (v1206 : List Int) (v1207 : Int) (v3650 : Int) (v3651 : Int) (v3653 : List (List Int)) (v3654 : List Nat) (v3655 : List Int) (v3656 : List (List Int)) (v3657 : List Nat) (s : Int × (List Int)) : Sd := ([tp,.int .i64 v1207,.ptr 0 (0 : Nat) 0 (3 : Nat),tp,tp,tp,.nest 1 0 1 ((v3654).length),.own 2 0 ((v3655).length),tp,.nest 3 0 1 ((v3657).length),.int .i64 v3650,.own 4 0 ((s.2).length),tp,tp,tp,tp,tp,tp,tp,tp,tp,tp,tp,tp,tp,tp,tp,tp,tp,tp,tp,.int .i64 v1205,.int .i64 v3650,tp,tp,tp,tp,tp,tp,tp,tp,tp,tp,tp,.own 2 0 ((v3655).length),.int .i64 v3651,.int .i64 s.1,tp,tp,tp,tp,tp,tp,tp,tp,tp,tp,tp,tp,tp,tp,tp,tp,tp,tp,tp,tp,tp,tp,tp,tp], [.gen [.int .i64 v1204, .int .i64 v1205, .bslc (BR.root 0) (.i64 v1206)] false 0, .nest [.sl (.i64 v3653) v3654] false 0, .row (.i64 v3655) 0, .nest [.sl (.i64 v3656) v3657] false 0, .row (.i64 s.2) 0])
def impl_NullOver_l2_X (v1204 : Int) (v1205 : Int) (v1206 : List Int) (v1207 : Int) (v3650 : Int) (v3651 : Int) (v3653 : List (List Int)) (v3654 : List Nat) (v3655 : List Int) (v3656 : List (List Int)) (v3657 : List Nat) (x : (List Int)) : Out := (.normal, [tp,.int .i64 v1207,.ptr 0 (0 : Nat) 0 (3 : Nat),tp,tp,tp,.nest 1 0 1 ((v3654).length),.own 2 0 ((v3655).length),tp,.nest 3 0 1 ((v3657).length),tp,.own 4 0 ((x).length),tp,tp,tp,tp,tp,tp,tp,tp,tp,tp,tp,tp,tp,tp,tp,tp,tp,tp,tp,.int .i64 v1205,.int .i64 v3650,tp,tp,tp,tp,tp,tp,tp,tp,tp,tp,tp,tp,tp,tp,tp,tp,tp,tp,tp,tp,tp,tp,tp,tp,tp,tp,tp,tp,tp,tp,tp,tp,tp,tp,tp,tp,tp,tp], [.gen [.int .i64 v1204, .int .i64 v1205, .bslc (BR.root 0) (.i64 v1206)] false 0, .nest [.sl (.i64 v3653) v3654] false 0, .row (.i64 v3655) 0, .nest [.sl (.i64 v3656) v3657] false 0, .row (.i64 x) 0])
def impl_NullOver_l2_kill : List Nat := KL true [1,2,3,2,1,3,19,2,11,3,24]
def impl_NullOver_l2_nx : Exit → List Nat
  | .exit 0 => KL true [9,1,61]
  | .exit 1 => KL true [1,2,3,2,1,1,21,2,38]
  | .exit 2 => KL true [1,2,3,2,1,1,1,1,19,2,38]
  | .ret => KL true [4,2,65]
  | _ => []
noncomputable def impl_NullOver_l0_T (v1204 : Int) (v1205 : Int) (v1206 : List Int) (v1207 : Int) (v3624 : List (List Int)) (v3625 : List Nat) (v3626 : List Int) (s : Int × (List (List Int)) × (List Nat)) : Tree ((Int × (List (List Int)) × (List Nat)) ⊕ ((List (List Int)) × (List Nat))) :=
  (.br (decide (s.1 < v1205)) (
   (.call (slices_ContainsI_g v3626 s.1) fun v3629 =>
   (.br v3629 (
    .leaf (.inl (IntKind.i64.wrap (s.1 + (1 : Int)), s.2.1, s.2.2))
   ) (
    (.need (v1205 = v1205) <|
    (.grd (inb v1205 (maxN + 1)) <|
    (.grd (inb s.1 (Int.toNat v1205)) <|
    (.need (some (impl_NullOver_l2_E v1204 v1205 v1206 v1207 s.1 (((v3626).length : Nat) : Int) v3624 v3625 v3626 s.2.1 s.2.2 ((0 : Int), List.set (List.replicate (Int.toNat v1205) (0 : Int)) (Int.toNat s.1) (1 : Int))) = some (impl_NullOver_l2_E v1204 v1205 v1206 v1207 s.1 (((v3626).length : Nat) : Int) v3624 v3625 v3626 s.2.1 s.2.2 ((0 : Int), List.set (List.replicate (Int.toNat v1205) (0 : Int)) (Int.toNat s.1) (1 : Int)))) <|
    (.call (impl_NullOver_l2_g v1207 s.1 (((v3626).length : Nat) : Int) v3624 v3625 v3626 s.2.1 s.2.2 ((0 : Int), List.set (List.replicate (Int.toNat v1205) (0 : Int)) (Int.toNat s.1) (1 : Int))) fun v3660 =>
    (.grd (fits (((s.2.2).length) + (1 : Nat))) <|
    .leaf (.inl (IntKind.i64.wrap (s.1 + (1 : Int)), s.2.1 ++ ([v3660] : List (List Int)), s.2.2 ++ [s.2.1.length + 1]))))))))
   )))
  ) (
   .leaf (.inr (s.2.1, s.2.2))
  ))

noncomputable def impl_NullOver_l0_g (v1204 : Int) (v1205 : Int) (v1206 : List Int) (v1207 : Int) (v3624 : List (List Int)) (v3625 : List Nat) (v3626 : List Int) (s0 : Int × (List (List Int)) × (List Nat)) : Option ((List (List Int)) × (List Nat)) := whileM (fun s => (impl_NullOver_l0_T v1204 v1205 v1206 v1207 v3624 v3625 v3626 s).run) s0
def impl_NullOver_l0_E (v1204 : Int) (v1205 : Int) (v1206 : List Int) (v1207 : Int) (v3624 : List (List Int)) (v3625 : List Nat) (v3626 : List Int) (s : Int × (List (List Int)) × (List Nat)) : Sd := ([tp,.int .i64 v1207,.ptr 0 (0 : Nat) 0 (3 : Nat),tp,tp,tp,.nest 1 0 1 ((v3625).length),.own 2 0 ((v3626).length),tp,.nest 3 0 1 ((s.2.2).length),tp,tp,tp,tp,tp,tp,tp,tp,tp,tp,tp,tp,tp,tp,tp,tp,tp,tp,tp,tp,tp,.int .i64 v1205,.int .i64 s.1,tp,tp,tp,tp,tp,tp,tp,tp,tp,tp,tp,tp,tp,tp,tp,tp,tp,tp,tp,tp,tp,tp,tp,tp,tp,tp,tp,tp,tp,tp,tp,tp,tp,tp,tp,tp,tp,tp], [.gen [.int .i64 v1204, .int .i64 v1205, .bslc (BR.root 0) (.i64 v1206)] false 0, .nest [.sl (.i64 v3624) v3625] false 0, .row (.i64 v3626) 0, .nest [.sl (.i64 s.2.1) s.2.2] false 0])
def impl_NullOver_l0_X (v1204 : Int) (v1205 : Int) (v1206 : List Int) (v1207 : Int) (v3624 : List (List Int)) (v3625 : List Nat) (v3626 : List Int) (x : (List (List Int)) × (List Nat)) : Out := (.normal, [tp,tp,tp,tp,tp,tp,tp,tp,tp,.nest 0 0 1 ((x.2).length),tp,tp,tp,tp,tp,tp,tp,tp,tp,tp,tp,tp,tp,tp,tp,tp,tp,tp,tp,tp,tp,tp,tp,tp,tp,tp,tp,tp,tp,tp,tp,tp,tp,tp,tp,tp,tp,tp,tp,tp,tp,tp,tp,tp,tp,tp,tp,tp,tp,tp,tp,tp,tp,tp,tp,tp,tp,tp,tp,tp,tp], [.nest [.sl (.i64 x.1) x.2] false 0])
def impl_NullOver_l0_kill : List Nat := KL true [1,2,3,2,1,1,21,2,38]
def impl_NullOver_l0_nx : Exit → List Nat
  | .exit 0 => KL true [9,1,61]
  | .ret => KL true [4,2,65]
  | _ => []
noncomputable def impl_NullOver_LO (v1204 : Int) (v1205 : Int) (v1206 : List Int) (v1207 : Int) : LOr := fun id e L =>
  match id with
  | 2 => .need (normA 0 impl_NullOver_l2_kill e L = some (impl_NullOver_l2_E v1204 v1205 v1206 v1207 (gI (vAt e 10)) (gI (vAt e 45)) (gPI L (vAt e 6) 0) (gX L (vAt e 6) 0) (gRI L (vAt e 7)) (gPI L (vAt e 9) 0) (gX L (vAt e 9) 0) ((gI (vAt e 46)), (gRI L (vAt e 11))))) (.call (impl_NullOver_l2_g v1207 (gI (vAt e 10)) (gI (vAt e 45)) (gPI L (vAt e 6) 0) (gX L (vAt e 6) 0) (gRI L (vAt e 7)) (gPI L (vAt e 9) 0) (gX L (vAt e 9) 0) ((gI (vAt e 46)), (gRI L (vAt e 11)))) fun x => .leaf (impl_NullOver_l2_X v1204 v1205 v1206 v1207 (gI (vAt e 10)) (gI (vAt e 45)) (gPI L (vAt e 6) 0) (gX L (vAt e 6) 0) (gRI L (vAt e 7)) (gPI L (vAt e 9) 0) (gX L (vAt e 9) 0) x))
  | 0 => .need (normA 0 impl_NullOver_l0_kill e L = some (impl_NullOver_l0_E v1204 v1205 v1206 v1207 (gPI L (vAt e 6) 0) (gX L (vAt e 6) 0) (gRI L (vAt e 7)) ((gI (vAt e 32)), (gPI L (vAt e 9) 0), (gX L (vAt e 9) 0)))) (.call (impl_NullOver_l0_g v1204 v1205 v1206 v1207 (gPI L (vAt e 6) 0) (gX L (vAt e 6) 0) (gRI L (vAt e 7)) ((gI (vAt e 32)), (gPI L (vAt e 9) 0), (gX L (vAt e 9) 0))) fun x => .leaf (impl_NullOver_l0_X v1204 v1205 v1206 v1207 (gPI L (vAt e 6) 0) (gX L (vAt e 6) 0) (gRI L (vAt e 7)) x))
  | _ => .fail
noncomputable def impl_NullOver_tab : List (FuncId × DFn × Bool) := [(63, impl_ValidWhole_F, true), (58, impl_IsPrime_F, true), (64, impl_Whole_over_i1_F, true), (69, slices_ContainsI_F, true), (70, impl_rest_F, true)]
theorem impl_NullOver_hO : OrcOk Try.prog (tabD impl_NullOver_tab) (tabM impl_NullOver_tab) := tabD_cons impl_ValidWhole_Fok (tabD_cons impl_IsPrime_Fok (tabD_cons impl_Whole_over_i1_Fok (tabD_cons slices_ContainsI_Fok (tabD_cons impl_rest_Fok (tabD_nil _)))))
theorem impl_NullOver_l2_be (v1204 : Int) (v1205 : Int) (v1206 : List Int) (v1207 : Int) (v3650 : Int) (v3651 : Int) (v3653 : List (List Int)) (v3654 : List Nat) (v3655 : List Int) (v3656 : List (List Int)) (v3657 : List Nat) (s : Int × (List Int)) : bodyT TT (tabD impl_NullOver_tab) (tabM impl_NullOver_tab) (impl_NullOver_LO v1204 v1205 v1206 v1207) 0 impl_NullOver_l2_kill impl_NullOver_l2_nx (bodyOf Try.f27 2) 2 (impl_NullOver_l2_E v1204 v1205 v1206 v1207 v3650 v3651 v3653 v3654 v3655 v3656 v3657 s) = (impl_NullOver_l2_T v1207 v3650 v3651 v3653 v3654 v3655 v3656 v3657 s).bind fun y => .leaf (outS (impl_NullOver_l2_E v1204 v1205 v1206 v1207 v3650 v3651 v3653 v3654 v3655 v3656 v3657) (impl_NullOver_l2_X v1204 v1205 v1206 v1207 v3650 v3651 v3653 v3654 v3655 v3656 v3657) y) := by kernel_rfl
theorem impl_NullOver_l2_ok (v1204 : Int) (v1205 : Int) (v1206 : List Int) (v1207 : Int) : LSound Try.prog 0 (impl_NullOver_LO v1204 v1205 v1206 v1207) 2 (bodyOf Try.f27 2) := by
  intro e L out h
  exact lo_ok (E := impl_NullOver_l2_E v1204 v1205 v1206 v1207 (gI (vAt e 10)) (gI (vAt e 45)) (gPI L (vAt e 6) 0) (gX L (vAt e 6) 0) (gRI L (vAt e 7)) (gPI L (vAt e 9) 0) (gX L (vAt e 9) 0)) (gT := impl_NullOver_l2_T v1207 (gI (vAt e 10)) (gI (vAt e 45)) (gPI L (vAt e 6) 0) (gX L (vAt e 6) 0) (gRI L (vAt e 7)) (gPI L (vAt e 9) 0) (gX L (vAt e 9) 0)) (X := impl_NullOver_l2_X v1204 v1205 v1206 v1207 (gI (vAt e 10)) (gI (vAt e 45)) (gPI L (vAt e 6) 0) (gX L (vAt e 6) 0) (gRI L (vAt e 7)) (gPI L (vAt e 9) 0) (gX L (vAt e 9) 0)) (s0 := ((gI (vAt e 46)), (gRI L (vAt e 11)))) tok impl_NullOver_hO mixed (LoopsOk_eq (l := []) (by kernel_rfl) trivial) (impl_NullOver_l2_be v1204 v1205 v1206 v1207 (gI (vAt e 10)) (gI (vAt e 45)) (gPI L (vAt e 6) 0) (gX L (vAt e 6) 0) (gRI L (vAt e 7)) (gPI L (vAt e 9) 0) (gX L (vAt e 9) 0)) rfl (by intro x; rfl) h
theorem impl_NullOver_l0_be (v1204 : Int) (v1205 : Int) (v1206 : List Int) (v1207 : Int) (v3624 : List (List Int)) (v3625 : List Nat) (v3626 : List Int) (s : Int × (List (List Int)) × (List Nat)) : bodyT TT (tabD impl_NullOver_tab) (tabM impl_NullOver_tab) (impl_NullOver_LO v1204 v1205 v1206 v1207) 0 impl_NullOver_l0_kill impl_NullOver_l0_nx (bodyOf Try.f27 0) 0 (impl_NullOver_l0_E v1204 v1205 v1206 v1207 v3624 v3625 v3626 s) = (impl_NullOver_l0_T v1204 v1205 v1206 v1207 v3624 v3625 v3626 s).bind fun y => .leaf (outS (impl_NullOver_l0_E v1204 v1205 v1206 v1207 v3624 v3625 v3626) (impl_NullOver_l0_X v1204 v1205 v1206 v1207 v3624 v3625 v3626) y) := by kernel_rfl
theorem impl_NullOver_l0_ok (v1204 : Int) (v1205 : Int) (v1206 : List Int) (v1207 : Int) : LSound Try.prog 0 (impl_NullOver_LO v1204 v1205 v1206 v1207) 0 (bodyOf Try.f27 0) := by
  intro e L out h
  exact lo_ok (E := impl_NullOver_l0_E v1204 v1205 v1206 v1207 (gPI L (vAt e 6) 0) (gX L (vAt e 6) 0) (gRI L (vAt e 7))) (gT := impl_NullOver_l0_T v1204 v1205 v1206 v1207 (gPI L (vAt e 6) 0) (gX L (vAt e 6) 0) (gRI L (vAt e 7))) (X := impl_NullOver_l0_X v1204 v1205 v1206 v1207 (gPI L (vAt e 6) 0) (gX L (vAt e 6) 0) (gRI L (vAt e 7))) (s0 := ((gI (vAt e 32)), (gPI L (vAt e 9) 0), (gX L (vAt e 9) 0))) tok impl_NullOver_hO mixed (LoopsOk_eq (l := [(2, bodyOf Try.f27 2)]) (by kernel_rfl) ⟨impl_NullOver_l2_ok v1204 v1205 v1206 v1207, trivial⟩) (impl_NullOver_l0_be v1204 v1205 v1206 v1207 (gPI L (vAt e 6) 0) (gX L (vAt e 6) 0) (gRI L (vAt e 7))) rfl (by intro x; rfl) h
noncomputable def impl_NullOver_T (v1204 : Int) (v1205 : Int) (v1206 : List Int) (v1207 : Int) : Tree ((Unit) ⊕ ((List (List Int)) × (List Nat))) :=
  (.call (impl_ValidWhole_g v1204 v1205 v1206) fun v1241 =>
  (.br (!v1241) (
   .leaf (.inl ())
  ) (
   (.call (impl_IsPrime_g v1207) fun v1249 =>
   (.br (!v1249) (
    .leaf (.inl ())
   ) (
    (.call (impl_Whole_over_i1_g v1204 v1205 v1206 v1207) fun v3543 =>
    (.need (some (impl_NullOver_l0_E v1204 v1205 v1206 v1207 v3543.2.1 v3543.2.2.1 v3543.2.2.2 ((0 : Int), ([] : List (List Int)), ([] : List Nat))) = some (impl_NullOver_l0_E v1204 v1205 v1206 v1207 v3543.2.1 v3543.2.2.1 v3543.2.2.2 ((0 : Int), ([] : List (List Int)), ([] : List Nat)))) <|
    (.call (impl_NullOver_l0_g v1204 v1205 v1206 v1207 v3543.2.1 v3543.2.2.1 v3543.2.2.2 ((0 : Int), ([] : List (List Int)), ([] : List Nat))) fun v3661 =>
    .leaf (.inr (v3661.1, v3661.2)))))
   )))
  )))

noncomputable def impl_NullOver_g (v1204 : Int) (v1205 : Int) (v1206 : List Int) (v1207 : Int) : Option ((Unit) ⊕ ((List (List Int)) × (List Nat))) := (impl_NullOver_T v1204 v1205 v1206 v1207).run
def impl_NullOver_enc (v1204 : Int) (v1205 : Int) (v1206 : List Int) (v1207 : Int) (y : (Unit) ⊕ ((List (List Int)) × (List Nat))) : Rs := (match y with | .inl y => (.tup [.nilslc, .lit false], []) | .inr y => (.tup [.nest 0 0 1 ((y.2).length), .lit true], [.nest [.sl (.i64 y.1) y.2] false 0]))
theorem impl_NullOver_den (v1204 : Int) (v1205 : Int) (v1206 : List Int) (v1207 : Int) : (den TT (tabD impl_NullOver_tab) (tabM impl_NullOver_tab) (impl_NullOver_LO v1204 v1205 v1206 v1207) (codeOf Try.f27) ([.agg [.int .i64 v1204, .int .i64 v1205, .bslc (BR.root 0) (.i64 v1206)], .int .i64 v1207] ++ List.replicate (Try.f27.ntmps - ([.agg [.int .i64 v1204, .int .i64 v1205, .bslc (BR.root 0) (.i64 v1206)], .int .i64 v1207] : List DV).length) .undef) []).bind (retD TT Try.f27.results.toList 0) = (impl_NullOver_T v1204 v1205 v1206 v1207).bind fun y => .leaf (impl_NullOver_enc v1204 v1205 v1206 v1207 y) := by kernel_rfl
theorem impl_NullOver_fn (v1204 : Int) (v1205 : Int) (v1206 : List Int) (v1207 : Int) (F : Fr) (h0 : St F [] F.H0) (hA : DVs.Ok F [] [.agg [.int .i64 v1204, .int .i64 v1205, .bslc (BR.root 0) (.i64 v1206)], .int .i64 v1207]) {y : (Unit) ⊕ ((List (List Int)) × (List Nat))} (hy : impl_NullOver_g v1204 v1205 v1206 v1207 = some y) : ∃ F' H', Fwd 0 F F' [] (impl_NullOver_enc v1204 v1205 v1206 v1207 y).2 ∧ FnOk Try.prog 27 (DVs.av F [.agg [.int .i64 v1204, .int .i64 v1205, .bslc (BR.root 0) (.i64 v1206)], .int .i64 v1207]) F.H0 ((impl_NullOver_enc v1204 v1205 v1206 v1207 y).1.av F') H' ∧ St F' (impl_NullOver_enc v1204 v1205 v1206 v1207 y).2 H' ∧ (impl_NullOver_enc v1204 v1205 v1206 v1207 y).1.Ok F' (impl_NullOver_enc v1204 v1205 v1206 v1207 y).2 :=
  fn_fin tok impl_NullOver_hO mixed Try.func27 Try.call27 (by kernel_rfl) (LoopsOk_eq (l := [(0, bodyOf Try.f27 0)]) (by kernel_rfl) ⟨impl_NullOver_l0_ok v1204 v1205 v1206 v1207, trivial⟩) (impl_NullOver_den v1204 v1205 v1206 v1207) hy h0 hA
noncomputable def impl_NullOver_F : DFn := fun args L =>
  match args with
  | [.agg [.int .i64 v1204, .int .i64 v1205, a1], .int .i64 v1207] =>
    optT (rowI64 L a1) fun v1206 =>
    .call (impl_NullOver_g v1204 v1205 v1206 v1207) fun y => .sum y (fun y0 => .leaf (.tup [.nilslc, .lit false], L)) (fun z0 => .leaf (.tup [.nest (L.length + 0) 0 1 ((z0.2).length), .lit true], L ++ [.nest [.sl (.i64 z0.1) z0.2] false 0]))
  | _ => .fail
theorem impl_NullOver_Fok : COk Try.prog 27 impl_NullOver_F true := by
  intro F L H args r L' hs ha hr
  unfold impl_NullOver_F at hr
  split at hr
  · rename_i v1204 v1205 a1 v1207
    obtain ⟨v1206, hv1206, hr⟩ := optT_run hr
    simp only [Tree.run] at hr
    obtain ⟨y, hy, hr⟩ := Option.bind_eq_some_iff.1 hr
    cases y with
    | inl y =>
      simp only [Tree.run, Option.some.injEq, Prod.mk.injEq] at hr
      obtain ⟨rfl, rfl⟩ := hr
      exact call_ok0 hs (fun k => (([a1.av F] : List AV)[k]?).getD .top) [.agg [.int .i64 v1204, .int .i64 v1205, a1], .int .i64 v1207] [.agg [.int .i64 v1204, .int .i64 v1205, .bslc (BR.root 0) (.i64 v1206)], .int .i64 v1207] (fun F' h0 hi hρ => ⟨by simp [DVs.av, DV.av, BR.av, hρ], impl_NullOver_fn v1204 v1205 v1206 v1207 F' (st_nil hi) ⟨⟨trivial, trivial, bslc_ok hi (by rw [h0, hρ]; exact rowI64_ok hs (DVs.okAt (DVs.okAt ha 0 rfl) 2 rfl) hv1206), trivial⟩, trivial, trivial⟩ hy⟩) rfl
    | inr y =>
      simp only [Tree.run, Option.some.injEq, Prod.mk.injEq] at hr
      obtain ⟨rfl, rfl⟩ := hr
      exact call_ok1 hs (fun k => (([a1.av F] : List AV)[k]?).getD .top) [.agg [.int .i64 v1204, .int .i64 v1205, a1], .int .i64 v1207] [.agg [.int .i64 v1204, .int .i64 v1205, .bslc (BR.root 0) (.i64 v1206)], .int .i64 v1207] (fun F' h0 hi hρ => ⟨by simp [DVs.av, DV.av, BR.av, hρ], impl_NullOver_fn v1204 v1205 v1206 v1207 F' (st_nil hi) ⟨⟨trivial, trivial, bslc_ok hi (by rw [h0, hρ]; exact rowI64_ok hs (DVs.okAt (DVs.okAt ha 0 rfl) 2 rfl) hv1206), trivial⟩, trivial, trivial⟩ hy⟩) rfl rfl
  · cases hr
/-! laws.eqInt64SS -/
noncomputable def laws_eqInt64SS_l0_T (s : Unit) : Tree ((Unit) ⊕ (Unit)) :=
  (.br (decide ((0 : Int) < (0 : Int))) (
   .fail
  ) (
   .leaf (.inr ())
  ))

noncomputable def laws_eqInt64SS_l0_g (s0 : Unit) : Option (Unit) := whileM (fun s => (laws_eqInt64SS_l0_T s).run) s0
def laws_eqInt64SS_l0_E (s : Unit) : Sd := ([.nilslc,.nilslc,tp,tp,tp,.int .i64 (0 : Int),tp,tp,tp,tp,tp,tp,tp,tp,tp,tp,tp,tp,tp,tp,tp,tp,tp,tp,tp,tp,tp], [])
def laws_eqInt64SS_l0_X (x : Unit) : Out := (.normal, [tp,tp,tp,tp,tp,tp,tp,tp,tp,tp,tp,tp,tp,tp,tp,tp,tp,tp,tp,tp,tp,tp,tp,tp,tp,tp,tp], [])
def laws_eqInt64SS_l0_kill : List Nat := KL true [0,2,3,1,21]
def laws_eqInt64SS_l0_nx : Exit → List Nat
  | .exit 0 => KL true [27]
  | .ret => KL true [4,1,22]
  | _ => []
noncomputable def laws_eqInt64SS_LO : LOr := fun id e L =>
  match id with
  | 0 => .need (normA 0 laws_eqInt64SS_l0_kill e L = some (laws_eqInt64SS_l0_E ())) (.call (laws_eqInt64SS_l0_g ()) fun x => .leaf (laws_eqInt64SS_l0_X x))
  | _ => .fail
noncomputable def laws_eqInt64SS_tab : List (FuncId × DFn × Bool) := []
theorem laws_eqInt64SS_hO : OrcOk Try.prog (tabD laws_eqInt64SS_tab) (tabM laws_eqInt64SS_tab) := tabD_nil _
theorem laws_eqInt64SS_l0_be (s : Unit) : bodyT TT (tabD laws_eqInt64SS_tab) (tabM laws_eqInt64SS_tab) (laws_eqInt64SS_LO) 0 laws_eqInt64SS_l0_kill laws_eqInt64SS_l0_nx (bodyOf Try.f28 0) 0 (laws_eqInt64SS_l0_E s) = (laws_eqInt64SS_l0_T s).bind fun y => .leaf (outS (laws_eqInt64SS_l0_E) (laws_eqInt64SS_l0_X) y) := by kernel_rfl
theorem laws_eqInt64SS_l0_ok : LSound Try.prog 0 (laws_eqInt64SS_LO) 0 (bodyOf Try.f28 0) := by
  intro e L out h
  exact lo_ok (E := laws_eqInt64SS_l0_E) (gT := laws_eqInt64SS_l0_T) (X := laws_eqInt64SS_l0_X) (s0 := ()) tok laws_eqInt64SS_hO mixed (LoopsOk_eq (l := []) (by kernel_rfl) trivial) (laws_eqInt64SS_l0_be) rfl (by intro x; rfl) h
noncomputable def laws_eqInt64SS_T : Tree (Bool) :=
  (.br (!decide ((0 : Int) = (0 : Int))) (
   .leaf false
  ) (
   (.need (some (laws_eqInt64SS_l0_E ()) = some (laws_eqInt64SS_l0_E ())) <|
   (.call (laws_eqInt64SS_l0_g ()) fun v3666 =>
   .leaf true))
  ))

noncomputable def laws_eqInt64SS_g : Option (Bool) := (laws_eqInt64SS_T).run
def laws_eqInt64SS_enc (y : Bool) : Rs := (.bool y, [])
theorem laws_eqInt64SS_den : (den TT (tabD laws_eqInt64SS_tab) (tabM laws_eqInt64SS_tab) (laws_eqInt64SS_LO) (codeOf Try.f28) ([.nilslc, .nilslc] ++ List.replicate (Try.f28.ntmps - ([.nilslc, .nilslc] : List DV).length) .undef) []).bind (retD TT Try.f28.results.toList 0) = (laws_eqInt64SS_T).bind fun y => .leaf (laws_eqInt64SS_enc y) := by kernel_rfl
theorem laws_eqInt64SS_fn (F : Fr) (h0 : St F [] F.H0) (hA : DVs.Ok F [] [.nilslc, .nilslc]) {y : Bool} (hy : laws_eqInt64SS_g = some y) : ∃ F' H', Fwd 0 F F' [] (laws_eqInt64SS_enc y).2 ∧ FnOk Try.prog 28 (DVs.av F [.nilslc, .nilslc]) F.H0 ((laws_eqInt64SS_enc y).1.av F') H' ∧ St F' (laws_eqInt64SS_enc y).2 H' ∧ (laws_eqInt64SS_enc y).1.Ok F' (laws_eqInt64SS_enc y).2 :=
  fn_fin tok laws_eqInt64SS_hO mixed Try.func28 Try.call28 (by kernel_rfl) (LoopsOk_eq (l := [(0, bodyOf Try.f28 0)]) (by kernel_rfl) ⟨laws_eqInt64SS_l0_ok, trivial⟩) (laws_eqInt64SS_den) hy h0 hA
noncomputable def laws_eqInt64SS_F : DFn := fun args L =>
  match args with
  | [.nilslc, .nilslc] =>
    .call (laws_eqInt64SS_g) fun y => .leaf (.bool y, L)
  | _ => .fail
theorem laws_eqInt64SS_Fok : COk Try.prog 28 laws_eqInt64SS_F true := by
  intro F L H args r L' hs ha hr
  unfold laws_eqInt64SS_F at hr
  split at hr
  · skip
    simp only [Tree.run] at hr
    obtain ⟨y, hy, hr⟩ := Option.bind_eq_some_iff.1 hr
    simp only [Tree.run, Option.some.injEq, Prod.mk.injEq] at hr
    obtain ⟨rfl, rfl⟩ := hr
    exact call_ok0 hs (fun k => (([] : List AV)[k]?).getD .top) [.nilslc, .nilslc] [.nilslc, .nilslc] (fun F' h0 hi hρ => ⟨by simp [DVs.av, DV.av, BR.av, hρ], laws_eqInt64SS_fn  F' (st_nil hi) ⟨trivial, trivial, trivial⟩ hy⟩) rfl
  · cases hr
/-! laws.eqInt64S -/
noncomputable def laws_eqInt64S_l0_T (v3675 : List Int) (v3676 : List Int) (s : Int) : Tree ((Int) ⊕ ((Unit) ⊕ (Unit))) :=
  (.br (decide (s < ((v3675.length : Nat) : Int))) (
   (.grd (inb s v3675.length) <|
   (.grd (inb s v3676.length) <|
   (.br (!decide (nth v3675 (Int.toNat s) = nth v3676 (Int.toNat s))) (
    .leaf (.inr (.inl ()))
   ) (
    .leaf (.inl (IntKind.i64.wrap (s + (1 : Int))))
   ))))
  ) (
   .leaf (.inr (.inr ()))
  ))

noncomputable def laws_eqInt64S_l0_g (v3675 : List Int) (v3676 : List Int) (s0 : Int) : Option ((Unit) ⊕ (Unit)) := whileM (fun s => (laws_eqInt64S_l0_T v3675 v3676 s).run) s0
def laws_eqInt64S_l0_E (v3675 : List Int) (v3676 : List Int) (s : Int) : Sd := ([.bslc (BR.root 0) (.i64 v3675),.bslc (BR.root 1) (.i64 v3676),tp,tp,tp,.int .i64 s,tp,tp,tp,tp,tp,tp,tp,tp,tp,tp,tp,tp,tp,tp,tp,tp,tp,tp,tp,tp], [])
def laws_eqInt64S_l0_X (v3675 : List Int) (v3676 : List Int) (x : (Unit) ⊕ (Unit)) : Out := (match x with | .inl x => (.ret, [tp,tp,tp,tp,.lit false,tp,tp,tp,tp,tp,tp,tp,tp,tp,tp,tp,tp,tp,tp,tp,tp,tp,tp,tp,tp,tp], []) | .inr x => (.normal, [tp,tp,tp,tp,tp,tp,tp,tp,tp,tp,tp,tp,tp,tp,tp,tp,tp,tp,tp,tp,tp,tp,tp,tp,tp,tp], []))
def laws_eqInt64S_l0_kill : List Nat := KL true [0,2,3,1,20]
def laws_eqInt64S_l0_nx : Exit → List Nat
  | .exit 0 => KL true [26]
  | .ret => KL true [4,1,21]
  | _ => []
noncomputable def laws_eqInt64S_LO (v3675 : List Int) (v3676 : List Int) : LOr := fun id e L =>
  match id with
  | 0 => .need (normA 0 laws_eqInt64S_l0_kill e L = some (laws_eqInt64S_l0_E v3675 v3676 (gI (vAt e 5)))) (.call (laws_eqInt64S_l0_g v3675 v3676 (gI (vAt e 5))) fun x => .sum x (fun b0 => .leaf (laws_eqInt64S_l0_X v3675 v3676 (.inl b0))) (fun c0 => .leaf (laws_eqInt64S_l0_X v3675 v3676 (.inr c0))))
  | _ => .fail
noncomputable def laws_eqInt64S_tab : List (FuncId × DFn × Bool) := []
theorem laws_eqInt64S_hO : OrcOk Try.prog (tabD laws_eqInt64S_tab) (tabM laws_eqInt64S_tab) := tabD_nil _
theorem laws_eqInt64S_l0_be (v3675 : List Int) (v3676 : List Int) (s : Int) : bodyT TT (tabD laws_eqInt64S_tab) (tabM laws_eqInt64S_tab) (laws_eqInt64S_LO v3675 v3676) 0 laws_eqInt64S_l0_kill laws_eqInt64S_l0_nx (bodyOf Try.f22 0) 0 (laws_eqInt64S_l0_E v3675 v3676 s) = (laws_eqInt64S_l0_T v3675 v3676 s).bind fun y => .leaf (outS (laws_eqInt64S_l0_E v3675 v3676) (laws_eqInt64S_l0_X v3675 v3676) y) := by kernel_rfl
theorem laws_eqInt64S_l0_ok (v3675 : List Int) (v3676 : List Int) : LSound Try.prog 0 (laws_eqInt64S_LO v3675 v3676) 0 (bodyOf Try.f22 0) := by
  intro e L out h
  exact lo_ok (E := laws_eqInt64S_l0_E v3675 v3676) (gT := laws_eqInt64S_l0_T v3675 v3676) (X := laws_eqInt64S_l0_X v3675 v3676) (s0 := (gI (vAt e 5))) tok laws_eqInt64S_hO mixed (LoopsOk_eq (l := []) (by kernel_rfl) trivial) (laws_eqInt64S_l0_be v3675 v3676) rfl (by intro x; (cases x with | inl b => rfl | inr x => exact rfl)) h
noncomputable def laws_eqInt64S_T (v3675 : List Int) (v3676 : List Int) : Tree (Bool) :=
  (.br (!decide (((v3675.length : Nat) : Int) = ((v3676.length : Nat) : Int))) (
   .leaf false
  ) (
   (.need (some (laws_eqInt64S_l0_E v3675 v3676 (0 : Int)) = some (laws_eqInt64S_l0_E v3675 v3676 (0 : Int))) <|
   (.call (laws_eqInt64S_l0_g v3675 v3676 (0 : Int)) fun v3680 =>
   (.sum v3680 (fun v3681 =>
    .leaf false
   ) (fun v3682 =>
    .leaf true
   ))))
  ))

noncomputable def laws_eqInt64S_g (v3675 : List Int) (v3676 : List Int) : Option (Bool) := (laws_eqInt64S_T v3675 v3676).run
def laws_eqInt64S_enc (v3675 : List Int) (v3676 : List Int) (y : Bool) : Rs := (.bool y, [])
theorem laws_eqInt64S_den (v3675 : List Int) (v3676 : List Int) : (den TT (tabD laws_eqInt64S_tab) (tabM laws_eqInt64S_tab) (laws_eqInt64S_LO v3675 v3676) (codeOf Try.f22) ([.bslc (BR.root 0) (.i64 v3675), .bslc (BR.root 1) (.i64 v3676)] ++ List.replicate (Try.f22.ntmps - ([.bslc (BR.root 0) (.i64 v3675), .bslc (BR.root 1) (.i64 v3676)] : List DV).length) .undef) []).bind (retD TT Try.f22.results.toList 0) = (laws_eqInt64S_T v3675 v3676).bind fun y => .leaf (laws_eqInt64S_enc v3675 v3676 y) := by kernel_rfl
theorem laws_eqInt64S_fn (v3675 : List Int) (v3676 : List Int) (F : Fr) (h0 : St F [] F.H0) (hA : DVs.Ok F [] [.bslc (BR.root 0) (.i64 v3675), .bslc (BR.root 1) (.i64 v3676)]) {y : Bool} (hy : laws_eqInt64S_g v3675 v3676 = some y) : ∃ F' H', Fwd 0 F F' [] (laws_eqInt64S_enc v3675 v3676 y).2 ∧ FnOk Try.prog 22 (DVs.av F [.bslc (BR.root 0) (.i64 v3675), .bslc (BR.root 1) (.i64 v3676)]) F.H0 ((laws_eqInt64S_enc v3675 v3676 y).1.av F') H' ∧ St F' (laws_eqInt64S_enc v3675 v3676 y).2 H' ∧ (laws_eqInt64S_enc v3675 v3676 y).1.Ok F' (laws_eqInt64S_enc v3675 v3676 y).2 :=
  fn_fin tok laws_eqInt64S_hO mixed Try.func22 Try.call22 (by kernel_rfl) (LoopsOk_eq (l := [(0, bodyOf Try.f22 0)]) (by kernel_rfl) ⟨laws_eqInt64S_l0_ok v3675 v3676, trivial⟩) (laws_eqInt64S_den v3675 v3676) hy h0 hA
noncomputable def laws_eqInt64S_F : DFn := fun args L =>
  match args with
  | [a1, a2] =>
    optT (rowI64 L a1) fun v3675 =>
    optT (rowI64 L a2) fun v3676 =>
    .call (laws_eqInt64S_g v3675 v3676) fun y => .leaf (.bool y, L)
  | _ => .fail
theorem laws_eqInt64S_Fok : COk Try.prog 22 laws_eqInt64S_F true := by
  intro F L H args r L' hs ha hr
  unfold laws_eqInt64S_F at hr
  split at hr
  · rename_i a1 a2
    obtain ⟨v3675, hv3675, hr⟩ := optT_run hr
    obtain ⟨v3676, hv3676, hr⟩ := optT_run hr
    simp only [Tree.run] at hr
    obtain ⟨y, hy, hr⟩ := Option.bind_eq_some_iff.1 hr
    simp only [Tree.run, Option.some.injEq, Prod.mk.injEq] at hr
    obtain ⟨rfl, rfl⟩ := hr
    exact call_ok0 hs (fun k => (([a1.av F, a2.av F] : List AV)[k]?).getD .top) [a1, a2] [.bslc (BR.root 0) (.i64 v3675), .bslc (BR.root 1) (.i64 v3676)] (fun F' h0 hi hρ => ⟨by simp [DVs.av, DV.av, BR.av, hρ], laws_eqInt64S_fn v3675 v3676 F' (st_nil hi) ⟨bslc_ok hi (by rw [h0, hρ]; exact rowI64_ok hs (DVs.okAt ha 0 rfl) hv3675), bslc_ok hi (by rw [h0, hρ]; exact rowI64_ok hs (DVs.okAt ha 1 rfl) hv3676), trivial⟩ hy⟩) rfl
  · cases hr
/-! laws.eqWhole -/
noncomputable def laws_eqWhole_LO (v3669 : Int) (v3670 : Int) (v3671 : List Int) (v3672 : Int) (v3673 : Int) (v3674 : List Int) : LOr := fun id e L =>
  match id with
  | _ => .fail
noncomputable def laws_eqWhole_tab : List (FuncId × DFn × Bool) := [(22, laws_eqInt64S_F, true)]
theorem laws_eqWhole_hO : OrcOk Try.prog (tabD laws_eqWhole_tab) (tabM laws_eqWhole_tab) := tabD_cons laws_eqInt64S_Fok (tabD_nil _)
noncomputable def laws_eqWhole_T (v3669 : Int) (v3670 : Int) (v3671 : List Int) (v3672 : Int) (v3673 : Int) (v3674 : List Int) : Tree (Bool) :=
  (.br (!decide (v3669 = v3672)) (
   .leaf false
  ) (
   (.br (!decide (v3670 = v3673)) (
    .leaf false
   ) (
    (.call (laws_eqInt64S_g v3671 v3674) fun v3683 =>
    (.br (!v3683) (
     .leaf false
    ) (
     .leaf true
    )))
   ))
  ))

noncomputable def laws_eqWhole_g (v3669 : Int) (v3670 : Int) (v3671 : List Int) (v3672 : Int) (v3673 : Int) (v3674 : List Int) : Option (Bool) := (laws_eqWhole_T v3669 v3670 v3671 v3672 v3673 v3674).run
def laws_eqWhole_enc (v3669 : Int) (v3670 : Int) (v3671 : List Int) (v3672 : Int) (v3673 : Int) (v3674 : List Int) (y : Bool) : Rs := (.bool y, [])
theorem laws_eqWhole_den (v3669 : Int) (v3670 : Int) (v3671 : List Int) (v3672 : Int) (v3673 : Int) (v3674 : List Int) : (den TT (tabD laws_eqWhole_tab) (tabM laws_eqWhole_tab) (laws_eqWhole_LO v3669 v3670 v3671 v3672 v3673 v3674) (codeOf Try.f16) ([.agg [.int .i64 v3669, .int .i64 v3670, .bslc (BR.root 0) (.i64 v3671)], .agg [.int .i64 v3672, .int .i64 v3673, .bslc (BR.root 1) (.i64 v3674)]] ++ List.replicate (Try.f16.ntmps - ([.agg [.int .i64 v3669, .int .i64 v3670, .bslc (BR.root 0) (.i64 v3671)], .agg [.int .i64 v3672, .int .i64 v3673, .bslc (BR.root 1) (.i64 v3674)]] : List DV).length) .undef) []).bind (retD TT Try.f16.results.toList 0) = (laws_eqWhole_T v3669 v3670 v3671 v3672 v3673 v3674).bind fun y => .leaf (laws_eqWhole_enc v3669 v3670 v3671 v3672 v3673 v3674 y) := by kernel_rfl
theorem laws_eqWhole_fn (v3669 : Int) (v3670 : Int) (v3671 : List Int) (v3672 : Int) (v3673 : Int) (v3674 : List Int) (F : Fr) (h0 : St F [] F.H0) (hA : DVs.Ok F [] [.agg [.int .i64 v3669, .int .i64 v3670, .bslc (BR.root 0) (.i64 v3671)], .agg [.int .i64 v3672, .int .i64 v3673, .bslc (BR.root 1) (.i64 v3674)]]) {y : Bool} (hy : laws_eqWhole_g v3669 v3670 v3671 v3672 v3673 v3674 = some y) : ∃ F' H', Fwd 0 F F' [] (laws_eqWhole_enc v3669 v3670 v3671 v3672 v3673 v3674 y).2 ∧ FnOk Try.prog 16 (DVs.av F [.agg [.int .i64 v3669, .int .i64 v3670, .bslc (BR.root 0) (.i64 v3671)], .agg [.int .i64 v3672, .int .i64 v3673, .bslc (BR.root 1) (.i64 v3674)]]) F.H0 ((laws_eqWhole_enc v3669 v3670 v3671 v3672 v3673 v3674 y).1.av F') H' ∧ St F' (laws_eqWhole_enc v3669 v3670 v3671 v3672 v3673 v3674 y).2 H' ∧ (laws_eqWhole_enc v3669 v3670 v3671 v3672 v3673 v3674 y).1.Ok F' (laws_eqWhole_enc v3669 v3670 v3671 v3672 v3673 v3674 y).2 :=
  fn_fin tok laws_eqWhole_hO mixed Try.func16 Try.call16 (by kernel_rfl) (LoopsOk_eq (l := []) (by kernel_rfl) trivial) (laws_eqWhole_den v3669 v3670 v3671 v3672 v3673 v3674) hy h0 hA
noncomputable def laws_eqWhole_F : DFn := fun args L =>
  match args with
  | [.agg [.int .i64 v3669, .int .i64 v3670, a1], .agg [.int .i64 v3672, .int .i64 v3673, a2]] =>
    optT (rowI64 L a1) fun v3671 =>
    optT (rowI64 L a2) fun v3674 =>
    .call (laws_eqWhole_g v3669 v3670 v3671 v3672 v3673 v3674) fun y => .leaf (.bool y, L)
  | _ => .fail
theorem laws_eqWhole_Fok : COk Try.prog 16 laws_eqWhole_F true := by
  intro F L H args r L' hs ha hr
  unfold laws_eqWhole_F at hr
  split at hr
  · rename_i v3669 v3670 a1 v3672 v3673 a2
    obtain ⟨v3671, hv3671, hr⟩ := optT_run hr
    obtain ⟨v3674, hv3674, hr⟩ := optT_run hr
    simp only [Tree.run] at hr
    obtain ⟨y, hy, hr⟩ := Option.bind_eq_some_iff.1 hr
    simp only [Tree.run, Option.some.injEq, Prod.mk.injEq] at hr
    obtain ⟨rfl, rfl⟩ := hr
    exact call_ok0 hs (fun k => (([a1.av F, a2.av F] : List AV)[k]?).getD .top) [.agg [.int .i64 v3669, .int .i64 v3670, a1], .agg [.int .i64 v3672, .int .i64 v3673, a2]] [.agg [.int .i64 v3669, .int .i64 v3670, .bslc (BR.root 0) (.i64 v3671)], .agg [.int .i64 v3672, .int .i64 v3673, .bslc (BR.root 1) (.i64 v3674)]] (fun F' h0 hi hρ => ⟨by simp [DVs.av, DV.av, BR.av, hρ], laws_eqWhole_fn v3669 v3670 v3671 v3672 v3673 v3674 F' (st_nil hi) ⟨⟨trivial, trivial, bslc_ok hi (by rw [h0, hρ]; exact rowI64_ok hs (DVs.okAt (DVs.okAt ha 0 rfl) 2 rfl) hv3671), trivial⟩, ⟨trivial, trivial, bslc_ok hi (by rw [h0, hρ]; exact rowI64_ok hs (DVs.okAt (DVs.okAt ha 1 rfl) 2 rfl) hv3674), trivial⟩, trivial⟩ hy⟩) rfl
  · cases hr
/-! laws.markInt64S -/
noncomputable def laws_markInt64S_l0_T (s : Int × Int × (List Int)) : Tree ((Int × Int × (List Int)) ⊕ (Int × (List Int))) :=
  (.br (decide (s.2.1 < (((s.2.2).length : Nat) : Int))) (
   (.grd (inb s.2.1 ((s.2.2).length)) <|
   .leaf (.inl (IntKind.i64.wrap (s.1 + (1 : Int)), IntKind.i64.wrap (s.2.1 + (1 : Int)), List.set s.2.2 (Int.toNat s.2.1) s.1)))
  ) (
   .leaf (.inr (s.1, s.2.2))
  ))

noncomputable def laws_markInt64S_l0_g (s0 : Int × Int × (List Int)) : Option (Int × (List Int)) := whileM (fun s => (laws_markInt64S_l0_T s).run) s0
def laws_markInt64S_l0_E (v3693 : List Int) (v3694 : Int) (s : Int × Int × (List Int)) : Sd := ([.own 0 0 ((s.2.2).length),.int .i64 s.1,tp,tp,tp,.int .i64 s.2.1,tp,tp,tp,tp,tp,tp,tp,tp,tp,tp,tp,tp,tp], [.row (.i64 s.2.2) 0])
def laws_markInt64S_l0_X (v3693 : List Int) (v3694 : Int) (x : Int × (List Int)) : Out := (.normal, [tp,.int .i64 x.1,tp,tp,tp,tp,tp,tp,tp,tp,tp,tp,tp,tp,tp,tp,tp,tp,tp], [.row (.i64 x.2) 0])
def laws_markInt64S_l0_kill : List Nat := KL true [0,2,3,1,13]
def laws_markInt64S_l0_nx : Exit → List Nat
  | .exit 0 => KL true [1,1,17]
  | .ret => KL true [4,1,14]
  | _ => []
noncomputable def laws_markInt64S_LO (v3693 : List Int) (v3694 : Int) : LOr := fun id e L =>
  match id with
  | 0 => .need (normA 1 laws_markInt64S_l0_kill e L = some (laws_markInt64S_l0_E v3693 v3694 ((gI (vAt e 1)), (gI (vAt e 5)), (gRI L (vAt e 0))))) (.call (laws_markInt64S_l0_g ((gI (vAt e 1)), (gI (vAt e 5)), (gRI L (vAt e 0)))) fun x => .leaf (laws_markInt64S_l0_X v3693 v3694 x))
  | _ => .fail
noncomputable def laws_markInt64S_tab : List (FuncId × DFn × Bool) := []
theorem laws_markInt64S_hO : OrcOk Try.prog (tabD laws_markInt64S_tab) (tabM laws_markInt64S_tab) := tabD_nil _
theorem laws_markInt64S_l0_be (v3693 : List Int) (v3694 : Int) (s : Int × Int × (List Int)) : bodyT TT (tabD laws_markInt64S_tab) (tabM laws_markInt64S_tab) (laws_markInt64S_LO v3693 v3694) 1 laws_markInt64S_l0_kill laws_markInt64S_l0_nx (bodyOf Try.f24 0) 0 (laws_markInt64S_l0_E v3693 v3694 s) = (laws_markInt64S_l0_T s).bind fun y => .leaf (outS (laws_markInt64S_l0_E v3693 v3694) (laws_markInt64S_l0_X v3693 v3694) y) := by kernel_rfl
theorem laws_markInt64S_l0_ok (v3693 : List Int) (v3694 : Int) : LSound Try.prog 1 (laws_markInt64S_LO v3693 v3694) 0 (bodyOf Try.f24 0) := by
  intro e L out h
  exact lo_ok (E := laws_markInt64S_l0_E v3693 v3694) (gT := laws_markInt64S_l0_T) (X := laws_markInt64S_l0_X v3693 v3694) (s0 := ((gI (vAt e 1)), (gI (vAt e 5)), (gRI L (vAt e 0)))) tok laws_markInt64S_hO mixed (LoopsOk_eq (l := []) (by kernel_rfl) trivial) (laws_markInt64S_l0_be v3693 v3694) rfl (by intro x; rfl) h
noncomputable def laws_markInt64S_T (v3693 : List Int) (v3694 : Int) : Tree (Int × (List Int)) :=
  (.need (some (laws_markInt64S_l0_E v3693 v3694 (v3694, (0 : Int), v3693)) = some (laws_markInt64S_l0_E v3693 v3694 (v3694, (0 : Int), v3693))) <|
  (.call (laws_markInt64S_l0_g (v3694, (0 : Int), v3693)) fun v3703 =>
  .leaf (v3703.1, v3703.2)))

noncomputable def laws_markInt64S_g (v3693 : List Int) (v3694 : Int) : Option (Int × (List Int)) := (laws_markInt64S_T v3693 v3694).run
def laws_markInt64S_enc (v3693 : List Int) (v3694 : Int) (y : Int × (List Int)) : Rs := (.int .i64 y.1, [.row (.i64 y.2) 0])
theorem laws_markInt64S_den (v3693 : List Int) (v3694 : Int) : (den TT (tabD laws_markInt64S_tab) (tabM laws_markInt64S_tab) (laws_markInt64S_LO v3693 v3694) (codeOf Try.f24) ([.own 0 0 v3693.length, .int .i64 v3694] ++ List.replicate (Try.f24.ntmps - ([.own 0 0 v3693.length, .int .i64 v3694] : List DV).length) .undef) [.row (.i64 v3693) 0]).bind (retD TT Try.f24.results.toList 1) = (laws_markInt64S_T v3693 v3694).bind fun y => .leaf (laws_markInt64S_enc v3693 v3694 y) := by kernel_rfl
theorem laws_markInt64S_fn (v3693 : List Int) (v3694 : Int) (F : Fr) (h0 : St F [.row (.i64 v3693) 0] F.H0) (hA : DVs.Ok F [.row (.i64 v3693) 0] [.own 0 0 v3693.length, .int .i64 v3694]) {y : Int × (List Int)} (hy : laws_markInt64S_g v3693 v3694 = some y) : ∃ F' H', Fwd 1 F F' [.row (.i64 v3693) 0] (laws_markInt64S_enc v3693 v3694 y).2 ∧ FnOk Try.prog 24 (DVs.av F [.own 0 0 v3693.length, .int .i64 v3694]) F.H0 ((laws_markInt64S_enc v3693 v3694 y).1.av F') H' ∧ St F' (laws_markInt64S_enc v3693 v3694 y).2 H' ∧ (laws_markInt64S_enc v3693 v3694 y).1.Ok F' (laws_markInt64S_enc v3693 v3694 y).2 :=
  fn_fin tok laws_markInt64S_hO mixed Try.func24 Try.call24 (by kernel_rfl) (LoopsOk_eq (l := [(0, bodyOf Try.f24 0)]) (by kernel_rfl) ⟨laws_markInt64S_l0_ok v3693 v3694, trivial⟩) (laws_markInt64S_den v3693 v3694) hy h0 hA
noncomputable def laws_markInt64S_F : DFn := fun args L =>
  match args with
  | [a1, .int .i64 v3694] =>
    optT (ownI64 L a1) fun qv3693 =>
    (match sepB [qv3693.1] [] with
    | true =>
    .call (laws_markInt64S_g qv3693.2 v3694) fun y => .grd (decide (y.2.length = qv3693.2.length)) (.leaf (.int .i64 y.1, setRows L ([qv3693.1].zip [.i64 y.2])))
    | false => .fail)
  | _ => .fail
theorem laws_markInt64S_Fok : COk Try.prog 24 laws_markInt64S_F false := by
  intro F L H args r L' hs ha hr
  unfold laws_markInt64S_F at hr
  split at hr
  · rename_i a1 v3694
    obtain ⟨⟨jv3693, v3693⟩, hqv3693, hr⟩ := optT_run hr
    simp only at hr
    split at hr
    · rename_i hsep
      obtain ⟨hnd, hsepv⟩ := sepB_spec hsep
      simp only [Tree.run] at hr
      obtain ⟨y, hy, hr⟩ := Option.bind_eq_some_iff.1 hr
      try simp only [Tree.run] at hr
      obtain ⟨hl0, hr⟩ := ite_run hr
      simp only [Option.some.injEq, Prod.mk.injEq] at hr
      obtain ⟨rfl, rfl⟩ := hr
      obtain ⟨hr0, hu0, ha0, hb0⟩ := (ownR_spec (DVs.okAt ha 0 rfl) (ownI64_or hqv3693))
      exact mut_ok hs (fun k => (([a1.av F] : List AV)[k]?).getD .top) [a1, .int .i64 v3694] [.own 0 0 v3693.length, .int .i64 v3694] [jv3693] [.i64 v3693] [.i64 y.2] hnd rfl rfl (fun i j q h1 h2 => by
          rcases i with _ | i
          · simp at h1 h2; subst h1; subst h2; exact hr0
          · simp at h1) (fun i q q' h1 h2 => by
          rcases i with _ | i
          · simp at h1 h2; subst h1; subst h2; first | exact of_decide_eq_true hl0 | rfl
          · simp at h1) (fun j hj => by simp at hj; subst hj; simp [DVs.refs, DV.refs, hu0]) (fun F' h0 hρ ab hst hS => ⟨by (have ab0 := ab 0 _ rfl; simp [DVs.av, DV.av, BR.av, hρ, Row.len, ha0, ab0]), by
          obtain ⟨F1, H1, k0, k1, k2, _⟩ := laws_markInt64S_fn v3693 v3694 F' hst ⟨⟨_, rfl, Nat.le_refl _, Nat.le_refl _, fun _ => rfl, (ownR_spec (DVs.okAt ha 0 rfl) (ownI64_or hqv3693)).2.2.2⟩, trivial, trivial⟩ hy
          exact ⟨F1, H1, k0, k1, k2⟩⟩) (fun F1 F2 => rfl) (fun F L' => trivial)
    · cases hr
  · cases hr
/-! laws.markWhole -/
noncomputable def laws_markWhole_LO (v3704 : Int) (v3705 : Int) (v3706 : List Int) (v3707 : Int) : LOr := fun id e L =>
  match id with
  | _ => .fail
noncomputable def laws_markWhole_tab : List (FuncId × DFn × Bool) := [(24, laws_markInt64S_F, false)]
theorem laws_markWhole_hO : OrcOk Try.prog (tabD laws_markWhole_tab) (tabM laws_markWhole_tab) := tabD_cons laws_markInt64S_Fok (tabD_nil _)
noncomputable def laws_markWhole_T (v3706 : List Int) (v3707 : Int) : Tree (Int × (List Int)) :=
  (.call (laws_markInt64S_g v3706 v3707) fun v3708 =>
  (.grd (decide (v3708.2.length = v3706.length)) <|
  .leaf (v3708.1, v3708.2)))

noncomputable def laws_markWhole_g (v3706 : List Int) (v3707 : Int) : Option (Int × (List Int)) := (laws_markWhole_T v3706 v3707).run
def laws_markWhole_enc (v3704 : Int) (v3705 : Int) (v3706 : List Int) (v3707 : Int) (y : Int × (List Int)) : Rs := (.int .i64 y.1, [.row (.i64 y.2) 0])
theorem laws_markWhole_den (v3704 : Int) (v3705 : Int) (v3706 : List Int) (v3707 : Int) : (den TT (tabD laws_markWhole_tab) (tabM laws_markWhole_tab) (laws_markWhole_LO v3704 v3705 v3706 v3707) (codeOf Try.f23) ([.agg [.int .i64 v3704, .int .i64 v3705, .own 0 0 v3706.length], .int .i64 v3707] ++ List.replicate (Try.f23.ntmps - ([.agg [.int .i64 v3704, .int .i64 v3705, .own 0 0 v3706.length], .int .i64 v3707] : List DV).length) .undef) [.row (.i64 v3706) 0]).bind (retD TT Try.f23.results.toList 1) = (laws_markWhole_T v3706 v3707).bind fun y => .leaf (laws_markWhole_enc v3704 v3705 v3706 v3707 y) := by kernel_rfl
theorem laws_markWhole_fn (v3704 : Int) (v3705 : Int) (v3706 : List Int) (v3707 : Int) (F : Fr) (h0 : St F [.row (.i64 v3706) 0] F.H0) (hA : DVs.Ok F [.row (.i64 v3706) 0] [.agg [.int .i64 v3704, .int .i64 v3705, .own 0 0 v3706.length], .int .i64 v3707]) {y : Int × (List Int)} (hy : laws_markWhole_g v3706 v3707 = some y) : ∃ F' H', Fwd 1 F F' [.row (.i64 v3706) 0] (laws_markWhole_enc v3704 v3705 v3706 v3707 y).2 ∧ FnOk Try.prog 23 (DVs.av F [.agg [.int .i64 v3704, .int .i64 v3705, .own 0 0 v3706.length], .int .i64 v3707]) F.H0 ((laws_markWhole_enc v3704 v3705 v3706 v3707 y).1.av F') H' ∧ St F' (laws_markWhole_enc v3704 v3705 v3706 v3707 y).2 H' ∧ (laws_markWhole_enc v3704 v3705 v3706 v3707 y).1.Ok F' (laws_markWhole_enc v3704 v3705 v3706 v3707 y).2 :=
  fn_fin tok laws_markWhole_hO mixed Try.func23 Try.call23 (by kernel_rfl) (LoopsOk_eq (l := []) (by kernel_rfl) trivial) (laws_markWhole_den v3704 v3705 v3706 v3707) hy h0 hA
noncomputable def laws_markWhole_F : DFn := fun args L =>
  match args with
  | [.agg [.int .i64 v3704, .int .i64 v3705, a1], .int .i64 v3707] =>
    optT (ownI64 L a1) fun qv3706 =>
    (match sepB [qv3706.1] [] with
    | true =>
    .call (laws_markWhole_g qv3706.2 v3707) fun y => .grd (decide (y.2.length = qv3706.2.length)) (.leaf (.int .i64 y.1, setRows L ([qv3706.1].zip [.i64 y.2])))
    | false => .fail)
  | _ => .fail
theorem laws_markWhole_Fok : COk Try.prog 23 laws_markWhole_F false := by
  intro F L H args r L' hs ha hr
  unfold laws_markWhole_F at hr
  split at hr
  · rename_i v3704 v3705 a1 v3707
    obtain ⟨⟨jv3706, v3706⟩, hqv3706, hr⟩ := optT_run hr
    simp only at hr
    split at hr
    · rename_i hsep
      obtain ⟨hnd, hsepv⟩ := sepB_spec hsep
      simp only [Tree.run] at hr
      obtain ⟨y, hy, hr⟩ := Option.bind_eq_some_iff.1 hr
      try simp only [Tree.run] at hr
      obtain ⟨hl0, hr⟩ := ite_run hr
      simp only [Option.some.injEq, Prod.mk.injEq] at hr
      obtain ⟨rfl, rfl⟩ := hr
      obtain ⟨hr0, hu0, ha0, hb0⟩ := (ownR_spec (DVs.okAt (DVs.okAt ha 0 rfl) 2 rfl) (ownI64_or hqv3706))
      exact mut_ok hs (fun k => (([a1.av F] : List AV)[k]?).getD .top) [.agg [.int .i64 v3704, .int .i64 v3705, a1], .int .i64 v3707] [.agg [.int .i64 v3704, .int .i64 v3705, .own 0 0 v3706.length], .int .i64 v3707] [jv3706] [.i64 v3706] [.i64 y.2] hnd rfl rfl (fun i j q h1 h2 => by
          rcases i with _ | i
          · simp at h1 h2; subst h1; subst h2; exact hr0
          · simp at h1) (fun i q q' h1 h2 => by
          rcases i with _ | i
          · simp at h1 h2; subst h1; subst h2; first | exact of_decide_eq_true hl0 | rfl
          · simp at h1) (fun j hj => by simp at hj; subst hj; simp [DVs.refs, DV.refs, hu0]) (fun F' h0 hρ ab hst hS => ⟨by (have ab0 := ab 0 _ rfl; simp [DVs.av, DV.av, BR.av, hρ, Row.len, ha0, ab0]), by
          obtain ⟨F1, H1, k0, k1, k2, _⟩ := laws_markWhole_fn v3704 v3705 v3706 v3707 F' hst ⟨⟨trivial, trivial, ⟨_, rfl, Nat.le_refl _, Nat.le_refl _, fun _ => rfl, (ownR_spec (DVs.okAt (DVs.okAt ha 0 rfl) 2 rfl) (ownI64_or hqv3706)).2.2.2⟩, trivial⟩, trivial, trivial⟩ hy
          exact ⟨F1, H1, k0, k1, k2⟩⟩) (fun F1 F2 => rfl) (fun F L' => trivial)
    · cases hr
  · cases hr
/-! laws.markInt64SS -/
noncomputable def laws_markInt64SS_l0_T (s : Unit) : Tree ((Unit) ⊕ (Unit)) :=
  (.br (decide ((0 : Int) < (0 : Int))) (
   .fail
  ) (
   .leaf (.inr ())
  ))

noncomputable def laws_markInt64SS_l0_g (s0 : Unit) : Option (Unit) := whileM (fun s => (laws_markInt64SS_l0_T s).run) s0
def laws_markInt64SS_l0_E (v3711 : Int) (s : Unit) : Sd := ([.nilslc,.int .i64 v3711,tp,tp,tp,.int .i64 (0 : Int),tp,tp,tp,tp,tp,tp,tp,tp,tp,tp,tp,tp,tp], [])
def laws_markInt64SS_l0_X (v3711 : Int) (x : Unit) : Out := (.normal, [tp,.int .i64 v3711,tp,tp,tp,tp,tp,tp,tp,tp,tp,tp,tp,tp,tp,tp,tp,tp,tp], [])
def laws_markInt64SS_l0_kill : List Nat := KL true [0,2,3,1,13]
def laws_markInt64SS_l0_nx : Exit → List Nat
  | .exit 0 => KL true [1,1,17]
  | .ret => KL true [4,1,14]
  | _ => []
noncomputable def laws_markInt64SS_LO (v3711 : Int) : LOr := fun id e L =>
  match id with
  | 0 => .need (normA 0 laws_markInt64SS_l0_kill e L = some (laws_markInt64SS_l0_E v3711 ())) (.call (laws_markInt64SS_l0_g ()) fun x => .leaf (laws_markInt64SS_l0_X v3711 x))
  | _ => .fail
noncomputable def laws_markInt64SS_tab : List (FuncId × DFn × Bool) := []
theorem laws_markInt64SS_hO : OrcOk Try.prog (tabD laws_markInt64SS_tab) (tabM laws_markInt64SS_tab) := tabD_nil _
theorem laws_markInt64SS_l0_be (v3711 : Int) (s : Unit) : bodyT TT (tabD laws_markInt64SS_tab) (tabM laws_markInt64SS_tab) (laws_markInt64SS_LO v3711) 0 laws_markInt64SS_l0_kill laws_markInt64SS_l0_nx (bodyOf Try.f29 0) 0 (laws_markInt64SS_l0_E v3711 s) = (laws_markInt64SS_l0_T s).bind fun y => .leaf (outS (laws_markInt64SS_l0_E v3711) (laws_markInt64SS_l0_X v3711) y) := by kernel_rfl
theorem laws_markInt64SS_l0_ok (v3711 : Int) : LSound Try.prog 0 (laws_markInt64SS_LO v3711) 0 (bodyOf Try.f29 0) := by
  intro e L out h
  exact lo_ok (E := laws_markInt64SS_l0_E v3711) (gT := laws_markInt64SS_l0_T) (X := laws_markInt64SS_l0_X v3711) (s0 := ()) tok laws_markInt64SS_hO mixed (LoopsOk_eq (l := []) (by kernel_rfl) trivial) (laws_markInt64SS_l0_be v3711) rfl (by intro x; rfl) h
noncomputable def laws_markInt64SS_T (v3711 : Int) : Tree (Int) :=
  (.need (some (laws_markInt64SS_l0_E v3711 ()) = some (laws_markInt64SS_l0_E v3711 ())) <|
  (.call (laws_markInt64SS_l0_g ()) fun v3714 =>
  .leaf v3711))

noncomputable def laws_markInt64SS_g (v3711 : Int) : Option (Int) := (laws_markInt64SS_T v3711).run
def laws_markInt64SS_enc (v3711 : Int) (y : Int) : Rs := (.int .i64 y, [])
theorem laws_markInt64SS_den (v3711 : Int) : (den TT (tabD laws_markInt64SS_tab) (tabM laws_markInt64SS_tab) (laws_markInt64SS_LO v3711) (codeOf Try.f29) ([.nilslc, .int .i64 v3711] ++ List.replicate (Try.f29.ntmps - ([.nilslc, .int .i64 v3711] : List DV).length) .undef) []).bind (retD TT Try.f29.results.toList 0) = (laws_markInt64SS_T v3711).bind fun y => .leaf (laws_markInt64SS_enc v3711 y) := by kernel_rfl
theorem laws_markInt64SS_fn (v3711 : Int) (F : Fr) (h0 : St F [] F.H0) (hA : DVs.Ok F [] [.nilslc, .int .i64 v3711]) {y : Int} (hy : laws_markInt64SS_g v3711 = some y) : ∃ F' H', Fwd 0 F F' [] (laws_markInt64SS_enc v3711 y).2 ∧ FnOk Try.prog 29 (DVs.av F [.nilslc, .int .i64 v3711]) F.H0 ((laws_markInt64SS_enc v3711 y).1.av F') H' ∧ St F' (laws_markInt64SS_enc v3711 y).2 H' ∧ (laws_markInt64SS_enc v3711 y).1.Ok F' (laws_markInt64SS_enc v3711 y).2 :=
  fn_fin tok laws_markInt64SS_hO mixed Try.func29 Try.call29 (by kernel_rfl) (LoopsOk_eq (l := [(0, bodyOf Try.f29 0)]) (by kernel_rfl) ⟨laws_markInt64SS_l0_ok v3711, trivial⟩) (laws_markInt64SS_den v3711) hy h0 hA
noncomputable def laws_markInt64SS_F : DFn := fun args L =>
  match args with
  | [.nilslc, .int .i64 v3711] =>
    .call (laws_markInt64SS_g v3711) fun y => .leaf (.int .i64 y, L)
  | _ => .fail
theorem laws_markInt64SS_Fok : COk Try.prog 29 laws_markInt64SS_F true := by
  intro F L H args r L' hs ha hr
  unfold laws_markInt64SS_F at hr
  split at hr
  · rename_i v3711
    simp only [Tree.run] at hr
    obtain ⟨y, hy, hr⟩ := Option.bind_eq_some_iff.1 hr
    simp only [Tree.run, Option.some.injEq, Prod.mk.injEq] at hr
    obtain ⟨rfl, rfl⟩ := hr
    exact call_ok0 hs (fun k => (([] : List AV)[k]?).getD .top) [.nilslc, .int .i64 v3711] [.nilslc, .int .i64 v3711] (fun F' h0 hi hρ => ⟨by simp [DVs.av, DV.av, BR.av, hρ], laws_markInt64SS_fn v3711 F' (st_nil hi) ⟨trivial, trivial, trivial⟩ hy⟩) rfl
  · cases hr
/-! laws.heldInt64SS -/
noncomputable def laws_heldInt64SS_l0_T (s : Unit) : Tree ((Unit) ⊕ (Unit)) :=
  (.br (decide ((0 : Int) < (0 : Int))) (
   .fail
  ) (
   .leaf (.inr ())
  ))

noncomputable def laws_heldInt64SS_l0_g (s0 : Unit) : Option (Unit) := whileM (fun s => (laws_heldInt64SS_l0_T s).run) s0
def laws_heldInt64SS_l0_E (v3716 : Int) (s : Unit) : Sd := ([.nilslc,.int .i64 v3716,tp,tp,tp,.int .i64 (0 : Int),tp,tp,tp,tp,tp,tp,tp,tp,tp,tp,tp,tp,tp,tp,tp], [])
def laws_heldInt64SS_l0_X (v3716 : Int) (x : Unit) : Out := (.normal, [tp,.int .i64 v3716,tp,tp,tp,tp,tp,tp,tp,tp,tp,tp,tp,tp,tp,tp,tp,tp,tp,tp,tp], [])
def laws_heldInt64SS_l0_kill : List Nat := KL true [0,2,3,1,15]
def laws_heldInt64SS_l0_nx : Exit → List Nat
  | .exit 0 => KL true [1,1,19]
  | .ret => KL true [4,1,16]
  | _ => []
noncomputable def laws_heldInt64SS_LO (v3716 : Int) : LOr := fun id e L =>
  match id with
  | 0 => .need (normA 0 laws_heldInt64SS_l0_kill e L = some (laws_heldInt64SS_l0_E v3716 ())) (.call (laws_heldInt64SS_l0_g ()) fun x => .leaf (laws_heldInt64SS_l0_X v3716 x))
  | _ => .fail
noncomputable def laws_heldInt64SS_tab : List (FuncId × DFn × Bool) := []
theorem laws_heldInt64SS_hO : OrcOk Try.prog (tabD laws_heldInt64SS_tab) (tabM laws_heldInt64SS_tab) := tabD_nil _
theorem laws_heldInt64SS_l0_be (v3716 : Int) (s : Unit) : bodyT TT (tabD laws_heldInt64SS_tab) (tabM laws_heldInt64SS_tab) (laws_heldInt64SS_LO v3716) 0 laws_heldInt64SS_l0_kill laws_heldInt64SS_l0_nx (bodyOf Try.f30 0) 0 (laws_heldInt64SS_l0_E v3716 s) = (laws_heldInt64SS_l0_T s).bind fun y => .leaf (outS (laws_heldInt64SS_l0_E v3716) (laws_heldInt64SS_l0_X v3716) y) := by kernel_rfl
theorem laws_heldInt64SS_l0_ok (v3716 : Int) : LSound Try.prog 0 (laws_heldInt64SS_LO v3716) 0 (bodyOf Try.f30 0) := by
  intro e L out h
  exact lo_ok (E := laws_heldInt64SS_l0_E v3716) (gT := laws_heldInt64SS_l0_T) (X := laws_heldInt64SS_l0_X v3716) (s0 := ()) tok laws_heldInt64SS_hO mixed (LoopsOk_eq (l := []) (by kernel_rfl) trivial) (laws_heldInt64SS_l0_be v3716) rfl (by intro x; rfl) h
noncomputable def laws_heldInt64SS_T (v3716 : Int) : Tree (Int) :=
  (.need (some (laws_heldInt64SS_l0_E v3716 ()) = some (laws_heldInt64SS_l0_E v3716 ())) <|
  (.call (laws_heldInt64SS_l0_g ()) fun v3719 =>
  .leaf v3716))

noncomputable def laws_heldInt64SS_g (v3716 : Int) : Option (Int) := (laws_heldInt64SS_T v3716).run
def laws_heldInt64SS_enc (v3716 : Int) (y : Int) : Rs := (.int .i64 y, [])
theorem laws_heldInt64SS_den (v3716 : Int) : (den TT (tabD laws_heldInt64SS_tab) (tabM laws_heldInt64SS_tab) (laws_heldInt64SS_LO v3716) (codeOf Try.f30) ([.nilslc, .int .i64 v3716] ++ List.replicate (Try.f30.ntmps - ([.nilslc, .int .i64 v3716] : List DV).length) .undef) []).bind (retD TT Try.f30.results.toList 0) = (laws_heldInt64SS_T v3716).bind fun y => .leaf (laws_heldInt64SS_enc v3716 y) := by kernel_rfl
theorem laws_heldInt64SS_fn (v3716 : Int) (F : Fr) (h0 : St F [] F.H0) (hA : DVs.Ok F [] [.nilslc, .int .i64 v3716]) {y : Int} (hy : laws_heldInt64SS_g v3716 = some y) : ∃ F' H', Fwd 0 F F' [] (laws_heldInt64SS_enc v3716 y).2 ∧ FnOk Try.prog 30 (DVs.av F [.nilslc, .int .i64 v3716]) F.H0 ((laws_heldInt64SS_enc v3716 y).1.av F') H' ∧ St F' (laws_heldInt64SS_enc v3716 y).2 H' ∧ (laws_heldInt64SS_enc v3716 y).1.Ok F' (laws_heldInt64SS_enc v3716 y).2 :=
  fn_fin tok laws_heldInt64SS_hO mixed Try.func30 Try.call30 (by kernel_rfl) (LoopsOk_eq (l := [(0, bodyOf Try.f30 0)]) (by kernel_rfl) ⟨laws_heldInt64SS_l0_ok v3716, trivial⟩) (laws_heldInt64SS_den v3716) hy h0 hA
noncomputable def laws_heldInt64SS_F : DFn := fun args L =>
  match args with
  | [.nilslc, .int .i64 v3716] =>
    .call (laws_heldInt64SS_g v3716) fun y => .leaf (.int .i64 y, L)
  | _ => .fail
theorem laws_heldInt64SS_Fok : COk Try.prog 30 laws_heldInt64SS_F true := by
  intro F L H args r L' hs ha hr
  unfold laws_heldInt64SS_F at hr
  split at hr
  · rename_i v3716
    simp only [Tree.run] at hr
    obtain ⟨y, hy, hr⟩ := Option.bind_eq_some_iff.1 hr
    simp only [Tree.run, Option.some.injEq, Prod.mk.injEq] at hr
    obtain ⟨rfl, rfl⟩ := hr
    exact call_ok0 hs (fun k => (([] : List AV)[k]?).getD .top) [.nilslc, .int .i64 v3716] [.nilslc, .int .i64 v3716] (fun F' h0 hi hρ => ⟨by simp [DVs.av, DV.av, BR.av, hρ], laws_heldInt64SS_fn v3716 F' (st_nil hi) ⟨trivial, trivial, trivial⟩ hy⟩) rfl
  · cases hr
/-! laws.eqInt64SS -/
noncomputable def laws_eqInt64SS_nst_l0_T (v3728 : List Nat) (s : Unit) : Tree ((Unit) ⊕ (Unit)) :=
  (.br (decide ((0 : Int) < (((v3728).length : Nat) : Int))) (
   (.grd (inb (0 : Int) ((v3728).length)) <|
   .fail)
  ) (
   .leaf (.inr ())
  ))

noncomputable def laws_eqInt64SS_nst_l0_g (v3728 : List Nat) (s0 : Unit) : Option (Unit) := whileM (fun s => (laws_eqInt64SS_nst_l0_T v3728 s).run) s0
def laws_eqInt64SS_nst_l0_E (v3727 : List (List Int)) (v3728 : List Nat) (s : Unit) : Sd := ([.nest 0 0 1 ((v3728).length),.nilslc,tp,tp,tp,.int .i64 (0 : Int),tp,tp,tp,tp,tp,tp,tp,tp,tp,tp,tp,tp,tp,tp,tp,tp,tp,tp,tp,tp,tp], [.nest [.sl (.i64 v3727) v3728] false 0])
def laws_eqInt64SS_nst_l0_X (v3727 : List (List Int)) (v3728 : List Nat) (x : Unit) : Out := (.normal, [tp,tp,tp,tp,tp,tp,tp,tp,tp,tp,tp,tp,tp,tp,tp,tp,tp,tp,tp,tp,tp,tp,tp,tp,tp,tp,tp], [.nest [.sl (.i64 v3727) v3728] false 0])
def laws_eqInt64SS_nst_l0_kill : List Nat := KL true [0,2,3,1,21]
def laws_eqInt64SS_nst_l0_nx : Exit → List Nat
  | .exit 0 => KL true [27]
  | .ret => KL true [4,1,22]
  | _ => []
noncomputable def laws_eqInt64SS_nst_LO (v3727 : List (List Int)) (v3728 : List Nat) : LOr := fun id e L =>
  match id with
  | 0 => .need (normA 1 laws_eqInt64SS_nst_l0_kill e L = some (laws_eqInt64SS_nst_l0_E v3727 v3728 ())) (.call (laws_eqInt64SS_nst_l0_g v3728 ()) fun x => .leaf (laws_eqInt64SS_nst_l0_X v3727 v3728 x))
  | _ => .fail
noncomputable def laws_eqInt64SS_nst_tab : List (FuncId × DFn × Bool) := []
theorem laws_eqInt64SS_nst_hO : OrcOk Try.prog (tabD laws_eqInt64SS_nst_tab) (tabM laws_eqInt64SS_nst_tab) := tabD_nil _
theorem laws_eqInt64SS_nst_l0_be (v3727 : List (List Int)) (v3728 : List Nat) (s : Unit) : bodyT TT (tabD laws_eqInt64SS_nst_tab) (tabM laws_eqInt64SS_nst_tab) (laws_eqInt64SS_nst_LO v3727 v3728) 1 laws_eqInt64SS_nst_l0_kill laws_eqInt64SS_nst_l0_nx (bodyOf Try.f28 0) 0 (laws_eqInt64SS_nst_l0_E v3727 v3728 s) = (laws_eqInt64SS_nst_l0_T v3728 s).bind fun y => .leaf (outS (laws_eqInt64SS_nst_l0_E v3727 v3728) (laws_eqInt64SS_nst_l0_X v3727 v3728) y) := by kernel_rfl
theorem laws_eqInt64SS_nst_l0_ok (v3727 : List (List Int)) (v3728 : List Nat) : LSound Try.prog 1 (laws_eqInt64SS_nst_LO v3727 v3728) 0 (bodyOf Try.f28 0) := by
  intro e L out h
  exact lo_ok (E := laws_eqInt64SS_nst_l0_E v3727 v3728) (gT := laws_eqInt64SS_nst_l0_T v3728) (X := laws_eqInt64SS_nst_l0_X v3727 v3728) (s0 := ()) tok laws_eqInt64SS_nst_hO mixed (LoopsOk_eq (l := []) (by kernel_rfl) trivial) (laws_eqInt64SS_nst_l0_be v3727 v3728) rfl (by intro x; rfl) h
noncomputable def laws_eqInt64SS_nst_T (v3727 : List (List Int)) (v3728 : List Nat) : Tree (Bool) :=
  (.br (!decide ((((v3728).length : Nat) : Int) = (0 : Int))) (
   .leaf false
  ) (
   (.need (some (laws_eqInt64SS_nst_l0_E v3727 v3728 ()) = some (laws_eqInt64SS_nst_l0_E v3727 v3728 ())) <|
   (.call (laws_eqInt64SS_nst_l0_g v3728 ()) fun v3730 =>
   .leaf true))
  ))

noncomputable def laws_eqInt64SS_nst_g (v3727 : List (List Int)) (v3728 : List Nat) : Option (Bool) := (laws_eqInt64SS_nst_T v3727 v3728).run
def laws_eqInt64SS_nst_enc (v3727 : List (List Int)) (v3728 : List Nat) (y : Bool) : Rs := (.bool y, [.nest [.sl (.i64 v3727) v3728] false 0])
theorem laws_eqInt64SS_nst_den (v3727 : List (List Int)) (v3728 : List Nat) : (den TT (tabD laws_eqInt64SS_nst_tab) (tabM laws_eqInt64SS_nst_tab) (laws_eqInt64SS_nst_LO v3727 v3728) (codeOf Try.f28) ([.nest 0 0 1 ((v3728).length), .nilslc] ++ List.replicate (Try.f28.ntmps - ([.nest 0 0 1 ((v3728).length), .nilslc] : List DV).length) .undef) [.nest [.sl (.i64 v3727) v3728] false 0]).bind (retD TT Try.f28.results.toList 1) = (laws_eqInt64SS_nst_T v3727 v3728).bind fun y => .leaf (laws_eqInt64SS_nst_enc v3727 v3728 y) := by kernel_rfl
theorem laws_eqInt64SS_nst_fn (v3727 : List (List Int)) (v3728 : List Nat) (F : Fr) (h0 : St F [.nest [.sl (.i64 v3727) v3728] false 0] F.H0) (hA : DVs.Ok F [.nest [.sl (.i64 v3727) v3728] false 0] [.nest 0 0 1 ((v3728).length), .nilslc]) {y : Bool} (hy : laws_eqInt64SS_nst_g v3727 v3728 = some y) : ∃ F' H', Fwd 1 F F' [.nest [.sl (.i64 v3727) v3728] false 0] (laws_eqInt64SS_nst_enc v3727 v3728 y).2 ∧ FnOk Try.prog 28 (DVs.av F [.nest 0 0 1 ((v3728).length), .nilslc]) F.H0 ((laws_eqInt64SS_nst_enc v3727 v3728 y).1.av F') H' ∧ St F' (laws_eqInt64SS_nst_enc v3727 v3728 y).2 H' ∧ (laws_eqInt64SS_nst_enc v3727 v3728 y).1.Ok F' (laws_eqInt64SS_nst_enc v3727 v3728 y).2 :=
  fn_fin tok laws_eqInt64SS_nst_hO mixed Try.func28 Try.call28 (by kernel_rfl) (LoopsOk_eq (l := [(0, bodyOf Try.f28 0)]) (by kernel_rfl) ⟨laws_eqInt64SS_nst_l0_ok v3727 v3728, trivial⟩) (laws_eqInt64SS_nst_den v3727 v3728) hy h0 hA
noncomputable def laws_eqInt64SS_nst_F : DFn := fun args L =>
  match args with
  | [a1, .nilslc] =>
    optT (nestN L false 1 a1) fun qn0 =>
    (match qn0.2 with
    | [.sl (.i64 v3727) v3728] =>
    (match sepB [qn0.1] [] with
    | true =>
    .call (laws_eqInt64SS_nst_g v3727 v3728) fun y => .grd (decide ((v3728).length = (v3728).length)) (.leaf (.bool y, setB L [(qn0.1, .nest [.sl (.i64 v3727) v3728] false (verAt L qn0.1))] ++ []))
    | false => .fail)
    | _ => .fail)
  | _ => .fail
theorem laws_eqInt64SS_nst_Fok : COk Try.prog 28 laws_eqInt64SS_nst_F false := by
  intro F L H args r L' hs ha hr
  unfold laws_eqInt64SS_nst_F at hr
  split at hr
  · rename_i a1
    obtain ⟨⟨jn0, cn0⟩, hn0, hr⟩ := optT_run hr
    simp only at hr
    split at hr
    · rename_i v3727 v3728
      obtain ⟨hne0, hnu0, hnl0, hnv0, hnm0, hno0⟩ := nestN_spec hs (DVs.okAt ha 0 rfl) hn0
      split at hr
      · rename_i hsep
        obtain ⟨hnd, hsepv⟩ := sepB_spec hsep
        simp only [Tree.run] at hr
        obtain ⟨y, hy, hr⟩ := Option.bind_eq_some_iff.1 hr
        try simp only [Tree.run] at hr
        obtain ⟨hl0, hr⟩ := ite_run hr
        simp only [Option.some.injEq, Prod.mk.injEq] at hr
        obtain ⟨rfl, rfl⟩ := hr
        exact mutG_ok hs [a1] ⟨(DVs.okAt ha 0 rfl), trivial⟩ [a1, .nilslc] [.nest 0 0 1 ((v3728).length), .nilslc] [jn0] [verAt L jn0] [.nest [.sl (.i64 v3727) v3728] false 0] [.nest [.sl (.i64 v3727) v3728] false 0] [.nest [.sl (.i64 v3727) v3728] false (verAt L jn0)] [] hnd rfl rfl (fun j hj => by
            simp at hj
            subst hj; exact ex_nest hne0) (fun j hj => by
            simp at hj
            subst hj; exact reach_refs (by simp [DVs.refs, DV.refs, hnu0])) (fun F' h0 hρ ab hpl hS => by
            have ab0 := ab 0 _ rfl;
            have hnx0 : a1.av F = (.nest 0 0 1 ((v3728).length) : DV).av F' := nestN_av (hpl 0 _ rfl) hnv0
            refine ⟨fun i j b' h1 h2 => ?_, by simp [DBlk.blk, DVs.av, DV.av, BR.av, hρ, Row.len, hnx0, ab0, ab0], fun hst => laws_eqInt64SS_nst_fn v3727 v3728 F' hst ⟨(nest_ok0 (i := 0) rfl rfl hnm0), trivial, trivial⟩ hy⟩
            rcases i with _ | i
            · simp at h1 h2; subst h1; subst h2; obtain ⟨ver_, hv_⟩ := hne0; exact ⟨_, hv_, .nest _ _ _ _, nest_blk (hpl 0 _ rfl) _ _ _ _, hno0 _ _⟩
            · simp at h1) rfl rfl (fun i j b b' h1 h2 h3 => by
            rcases i with _ | i
            · simp at h1; subst h1; cases h3; exact growN hne0 (by first | exact of_decide_eq_true hl0 | rfl) rfl h2
            · simp at h1)
      · cases hr
    · cases hr
  · cases hr
/-! laws.markInt64S -/
noncomputable def laws_markInt64S_nst_l0_T (v3745 : Nat) (s : Int × Int × (List (List Int))) : Tree ((Int × Int × (List (List Int))) ⊕ (Int × (List (List Int)))) :=
  (.br (decide (s.2.1 < (((nget s.2.2 v3745).length : Nat) : Int))) (
   (.grd (inb s.2.1 ((nget s.2.2 v3745).length)) <|
   .leaf (.inl (IntKind.i64.wrap (s.1 + (1 : Int)), IntKind.i64.wrap (s.2.1 + (1 : Int)), List.set s.2.2 (v3745 - 1) (List.set (nget s.2.2 v3745) (Int.toNat s.2.1) s.1))))
  ) (
   .leaf (.inr (s.1, s.2.2))
  ))

noncomputable def laws_markInt64S_nst_l0_g (v3745 : Nat) (s0 : Int × Int × (List (List Int))) : Option (Int × (List (List Int))) := whileM (fun s => (laws_markInt64S_nst_l0_T v3745 s).run) s0
def laws_markInt64S_nst_l0_E (v3743 : List (List Int)) (v3744 : List Nat) (v3745 : Nat) (v3746 : Int) (s : Int × Int × (List (List Int))) : Sd := ([.inn 0 0 v3745 ((nget s.2.2 v3745).length),.int .i64 s.1,tp,tp,tp,.int .i64 s.2.1,tp,tp,tp,tp,tp,tp,tp,tp,tp,tp,tp,tp,tp], [.nest [.sl (.i64 s.2.2) v3744] false 0])
def laws_markInt64S_nst_l0_X (v3743 : List (List Int)) (v3744 : List Nat) (v3745 : Nat) (v3746 : Int) (x : Int × (List (List Int))) : Out := (.normal, [tp,.int .i64 x.1,tp,tp,tp,tp,tp,tp,tp,tp,tp,tp,tp,tp,tp,tp,tp,tp,tp], [.nest [.sl (.i64 x.2) v3744] false 0])
def laws_markInt64S_nst_l0_kill : List Nat := KL true [0,2,3,1,13]
def laws_markInt64S_nst_l0_nx : Exit → List Nat
  | .exit 0 => KL true [1,1,17]
  | .ret => KL true [4,1,14]
  | _ => []
noncomputable def laws_markInt64S_nst_LO (v3743 : List (List Int)) (v3744 : List Nat) (v3745 : Nat) (v3746 : Int) : LOr := fun id e L =>
  match id with
  | 0 => .need (normA 1 laws_markInt64S_nst_l0_kill e L = some (laws_markInt64S_nst_l0_E v3743 v3744 v3745 v3746 ((gI (vAt e 1)), (gI (vAt e 5)), (gPI L (vAt e 0) 0)))) (.call (laws_markInt64S_nst_l0_g v3745 ((gI (vAt e 1)), (gI (vAt e 5)), (gPI L (vAt e 0) 0))) fun x => .leaf (laws_markInt64S_nst_l0_X v3743 v3744 v3745 v3746 x))
  | _ => .fail
noncomputable def laws_markInt64S_nst_tab : List (FuncId × DFn × Bool) := []
theorem laws_markInt64S_nst_hO : OrcOk Try.prog (tabD laws_markInt64S_nst_tab) (tabM laws_markInt64S_nst_tab) := tabD_nil _
theorem laws_markInt64S_nst_l0_be (v3743 : List (List Int)) (v3744 : List Nat) (v3745 : Nat) (v3746 : Int) (s : Int × Int × (List (List Int))) : bodyT TT (tabD laws_markInt64S_nst_tab) (tabM laws_markInt64S_nst_tab) (laws_markInt64S_nst_LO v3743 v3744 v3745 v3746) 1 laws_markInt64S_nst_l0_kill laws_markInt64S_nst_l0_nx (bodyOf Try.f24 0) 0 (laws_markInt64S_nst_l0_E v3743 v3744 v3745 v3746 s) = (laws_markInt64S_nst_l0_T v3745 s).bind fun y => .leaf (outS (laws_markInt64S_nst_l0_E v3743 v3744 v3745 v3746) (laws_markInt64S_nst_l0_X v3743 v3744 v3745 v3746) y) := by kernel_rfl
theorem laws_markInt64S_nst_l0_ok (v3743 : List (List Int)) (v3744 : List Nat) (v3745 : Nat) (v3746 : Int) : LSound Try.prog 1 (laws_markInt64S_nst_LO v3743 v3744 v3745 v3746) 0 (bodyOf Try.f24 0) := by
  intro e L out h
  exact lo_ok (E := laws_markInt64S_nst_l0_E v3743 v3744 v3745 v3746) (gT := laws_markInt64S_nst_l0_T v3745) (X := laws_markInt64S_nst_l0_X v3743 v3744 v3745 v3746) (s0 := ((gI (vAt e 1)), (gI (vAt e 5)), (gPI L (vAt e 0) 0))) tok laws_markInt64S_nst_hO mixed (LoopsOk_eq (l := []) (by kernel_rfl) trivial) (laws_markInt64S_nst_l0_be v3743 v3744 v3745 v3746) rfl (by intro x; rfl) h
noncomputable def laws_markInt64S_nst_T (v3743 : List (List Int)) (v3744 : List Nat) (v3745 : Nat) (v3746 : Int) : Tree (Int × (List (List Int))) :=
  (.need (some (laws_markInt64S_nst_l0_E v3743 v3744 v3745 v3746 (v3746, (0 : Int), v3743)) = some (laws_markInt64S_nst_l0_E v3743 v3744 v3745 v3746 (v3746, (0 : Int), v3743))) <|
  (.call (laws_markInt64S_nst_l0_g v3745 (v3746, (0 : Int), v3743)) fun v3755 =>
  .leaf (v3755.1, v3755.2)))

noncomputable def laws_markInt64S_nst_g (v3743 : List (List Int)) (v3744 : List Nat) (v3745 : Nat) (v3746 : Int) : Option (Int × (List (List Int))) := (laws_markInt64S_nst_T v3743 v3744 v3745 v3746).run
def laws_markInt64S_nst_enc (v3743 : List (List Int)) (v3744 : List Nat) (v3745 : Nat) (v3746 : Int) (y : Int × (List (List Int))) : Rs := (.int .i64 y.1, [.nest [.sl (.i64 y.2) v3744] false 0])
theorem laws_markInt64S_nst_den (v3743 : List (List Int)) (v3744 : List Nat) (v3745 : Nat) (v3746 : Int) : (den TT (tabD laws_markInt64S_nst_tab) (tabM laws_markInt64S_nst_tab) (laws_markInt64S_nst_LO v3743 v3744 v3745 v3746) (codeOf Try.f24) ([.inn 0 0 v3745 ((nget v3743 v3745).length), .int .i64 v3746] ++ List.replicate (Try.f24.ntmps - ([.inn 0 0 v3745 ((nget v3743 v3745).length), .int .i64 v3746] : List DV).length) .undef) [.nest [.sl (.i64 v3743) v3744] false 0]).bind (retD TT Try.f24.results.toList 1) = (laws_markInt64S_nst_T v3743 v3744 v3745 v3746).bind fun y => .leaf (laws_markInt64S_nst_enc v3743 v3744 v3745 v3746 y) := by kernel_rfl
theorem laws_markInt64S_nst_fn (v3743 : List (List Int)) (v3744 : List Nat) (v3745 : Nat) (v3746 : Int) (F : Fr) (h0 : St F [.nest [.sl (.i64 v3743) v3744] false 0] F.H0) (hA : DVs.Ok F [.nest [.sl (.i64 v3743) v3744] false 0] [.inn 0 0 v3745 ((nget v3743 v3745).length), .int .i64 v3746]) {y : Int × (List (List Int))} (hy : laws_markInt64S_nst_g v3743 v3744 v3745 v3746 = some y) : ∃ F' H', Fwd 1 F F' [.nest [.sl (.i64 v3743) v3744] false 0] (laws_markInt64S_nst_enc v3743 v3744 v3745 v3746 y).2 ∧ FnOk Try.prog 24 (DVs.av F [.inn 0 0 v3745 ((nget v3743 v3745).length), .int .i64 v3746]) F.H0 ((laws_markInt64S_nst_enc v3743 v3744 v3745 v3746 y).1.av F') H' ∧ St F' (laws_markInt64S_nst_enc v3743 v3744 v3745 v3746 y).2 H' ∧ (laws_markInt64S_nst_enc v3743 v3744 v3745 v3746 y).1.Ok F' (laws_markInt64S_nst_enc v3743 v3744 v3745 v3746 y).2 :=
  fn_fin tok laws_markInt64S_nst_hO mixed Try.func24 Try.call24 (by kernel_rfl) (LoopsOk_eq (l := [(0, bodyOf Try.f24 0)]) (by kernel_rfl) ⟨laws_markInt64S_nst_l0_ok v3743 v3744 v3745 v3746, trivial⟩) (laws_markInt64S_nst_den v3743 v3744 v3745 v3746) hy h0 hA
noncomputable def laws_markInt64S_nst_F : DFn := fun args L =>
  match args with
  | [a1, .int .i64 v3746] =>
    optT (nestI L false 1 a1) fun qn0 =>
    (match qn0.2 with
    | [.sl (.i64 v3743) v3744] =>
    optT (innK qn0.1 0 a1) fun v3745 =>
    (match sepB [qn0.1] [] with
    | true =>
    .call (laws_markInt64S_nst_g v3743 v3744 v3745 v3746) fun y => .grd (decide ((v3744).length = (v3744).length)) (.leaf (.int .i64 y.1, setB L [(qn0.1, .nest [.sl (.i64 y.2) v3744] false (verAt L qn0.1))] ++ []))
    | false => .fail)
    | _ => .fail)
  | _ => .fail
theorem laws_markInt64S_nst_Fok : COk Try.prog 24 laws_markInt64S_nst_F false := by
  intro F L H args r L' hs ha hr
  unfold laws_markInt64S_nst_F at hr
  split at hr
  · rename_i a1 v3746
    obtain ⟨⟨jn0, cn0⟩, hn0, hr⟩ := optT_run hr
    simp only at hr
    split at hr
    · rename_i v3743 v3744
      obtain ⟨hne0, hnu0, hnl0, hno0⟩ := nestI_spec hs hn0
      obtain ⟨v3745, hk0, hr⟩ := optT_run hr
      have hik0 := innK_spec (c := 0) (DVs.okAt ha 0 rfl) hk0 hne0 rfl
      split at hr
      · rename_i hsep
        obtain ⟨hnd, hsepv⟩ := sepB_spec hsep
        simp only [Tree.run] at hr
        obtain ⟨y, hy, hr⟩ := Option.bind_eq_some_iff.1 hr
        try simp only [Tree.run] at hr
        obtain ⟨hl0, hr⟩ := ite_run hr
        simp only [Option.some.injEq, Prod.mk.injEq] at hr
        obtain ⟨rfl, rfl⟩ := hr
        exact mutG_ok hs [a1] ⟨(DVs.okAt ha 0 rfl), trivial⟩ [a1, .int .i64 v3746] [.inn 0 0 v3745 ((nget v3743 v3745).length), .int .i64 v3746] [jn0] [verAt L jn0] [.nest [.sl (.i64 v3743) v3744] false 0] [.nest [.sl (.i64 y.2) v3744] false 0] [.nest [.sl (.i64 y.2) v3744] false (verAt L jn0)] [] hnd rfl rfl (fun j hj => by
            simp at hj
            subst hj; exact ex_nest hne0) (fun j hj => by
            simp at hj
            subst hj; exact reach_refs (by simp [DVs.refs, DV.refs, hnu0])) (fun F' h0 hρ ab hpl hS => by
            have ab0 := ab 0 _ rfl;
            have hnx0 : a1.av F = (.inn 0 0 v3745 ((nget v3743 v3745).length) : DV).av F' := innK_av (hpl 0 _ rfl) hik0.1
            refine ⟨fun i j b' h1 h2 => ?_, by simp [DBlk.blk, DVs.av, DV.av, BR.av, hρ, Row.len, hnx0, ab0, ab0], fun hst => laws_markInt64S_nst_fn v3743 v3744 v3745 v3746 F' hst ⟨(innK_ok (i := 0) rfl rfl hik0.2.1 hik0.2.2), trivial, trivial⟩ hy⟩
            rcases i with _ | i
            · simp at h1 h2; subst h1; subst h2; obtain ⟨ver_, hv_⟩ := hne0; exact ⟨_, hv_, .nest _ _ _ _, nest_blk (hpl 0 _ rfl) _ _ _ _, hno0 _ _⟩
            · simp at h1) rfl rfl (fun i j b b' h1 h2 h3 => by
            rcases i with _ | i
            · simp at h1; subst h1; cases h3; exact growN hne0 (by first | exact of_decide_eq_true hl0 | rfl) rfl h2
            · simp at h1)
      · cases hr
    · cases hr
  · cases hr
/-! laws.markInt64SS -/
noncomputable def laws_markInt64SS_nst_l0_T (v3739 : List Nat) (s : Int × Int × (List (List Int))) : Tree ((Int × Int × (List (List Int))) ⊕ (Int × (List (List Int)))) :=
  (.br (decide (s.2.1 < (((v3739).length : Nat) : Int))) (
   (.grd (inb s.2.1 ((v3739).length)) <|
   (.call (laws_markInt64S_nst_g s.2.2 v3739 (nth v3739 (Int.toNat s.2.1)) s.1) fun v3764 =>
   (.grd (decide ((v3739).length = (v3739).length)) <|
   .leaf (.inl (v3764.1, IntKind.i64.wrap (s.2.1 + (1 : Int)), v3764.2)))))
  ) (
   .leaf (.inr (s.1, s.2.2))
  ))

noncomputable def laws_markInt64SS_nst_l0_g (v3739 : List Nat) (s0 : Int × Int × (List (List Int))) : Option (Int × (List (List Int))) := whileM (fun s => (laws_markInt64SS_nst_l0_T v3739 s).run) s0
def laws_markInt64SS_nst_l0_E (v3738 : List (List Int)) (v3739 : List Nat) (v3740 : Int) (s : Int × Int × (List (List Int))) : Sd := ([.nest 0 0 1 ((v3739).length),.int .i64 s.1,tp,tp,tp,.int .i64 s.2.1,tp,tp,tp,tp,tp,tp,tp,tp,tp,tp,tp,tp,tp], [.nest [.sl (.i64 s.2.2) v3739] false 0])
def laws_markInt64SS_nst_l0_X (v3738 : List (List Int)) (v3739 : List Nat) (v3740 : Int) (x : Int × (List (List Int))) : Out := (.normal, [tp,.int .i64 x.1,tp,tp,tp,tp,tp,tp,tp,tp,tp,tp,tp,tp,tp,tp,tp,tp,tp], [.nest [.sl (.i64 x.2) v3739] false 0])
def laws_markInt64SS_nst_l0_kill : List Nat := KL true [0,2,3,1,13]
def laws_markInt64SS_nst_l0_nx : Exit → List Nat
  | .exit 0 => KL true [1,1,17]
  | .ret => KL true [4,1,14]
  | _ => []
noncomputable def laws_markInt64SS_nst_LO (v3738 : List (List Int)) (v3739 : List Nat) (v3740 : Int) : LOr := fun id e L =>
  match id with
  | 0 => .need (normA 1 laws_markInt64SS_nst_l0_kill e L = some (laws_markInt64SS_nst_l0_E v3738 v3739 v3740 ((gI (vAt e 1)), (gI (vAt e 5)), (gPI L (vAt e 0) 0)))) (.call (laws_markInt64SS_nst_l0_g v3739 ((gI (vAt e 1)), (gI (vAt e 5)), (gPI L (vAt e 0) 0))) fun x => .leaf (laws_markInt64SS_nst_l0_X v3738 v3739 v3740 x))
  | _ => .fail
noncomputable def laws_markInt64SS_nst_tab : List (FuncId × DFn × Bool) := [(24, laws_markInt64S_nst_F, false)]
theorem laws_markInt64SS_nst_hO : OrcOk Try.prog (tabD laws_markInt64SS_nst_tab) (tabM laws_markInt64SS_nst_tab) := tabD_cons laws_markInt64S_nst_Fok (tabD_nil _)
theorem laws_markInt64SS_nst_l0_be (v3738 : List (List Int)) (v3739 : List Nat) (v3740 : Int) (s : Int × Int × (List (List Int))) : bodyT TT (tabD laws_markInt64SS_nst_tab) (tabM laws_markInt64SS_nst_tab) (laws_markInt64SS_nst_LO v3738 v3739 v3740) 1 laws_markInt64SS_nst_l0_kill laws_markInt64SS_nst_l0_nx (bodyOf Try.f29 0) 0 (laws_markInt64SS_nst_l0_E v3738 v3739 v3740 s) = (laws_markInt64SS_nst_l0_T v3739 s).bind fun y => .leaf (outS (laws_markInt64SS_nst_l0_E v3738 v3739 v3740) (laws_markInt64SS_nst_l0_X v3738 v3739 v3740) y) := by kernel_rfl
theorem laws_markInt64SS_nst_l0_ok (v3738 : List (List Int)) (v3739 : List Nat) (v3740 : Int) : LSound Try.prog 1 (laws_markInt64SS_nst_LO v3738 v3739 v3740) 0 (bodyOf Try.f29 0) := by
  intro e L out h
  exact lo_ok (E := laws_markInt64SS_nst_l0_E v3738 v3739 v3740) (gT := laws_markInt64SS_nst_l0_T v3739) (X := laws_markInt64SS_nst_l0_X v3738 v3739 v3740) (s0 := ((gI (vAt e 1)), (gI (vAt e 5)), (gPI L (vAt e 0) 0))) tok laws_markInt64SS_nst_hO mixed (LoopsOk_eq (l := []) (by kernel_rfl) trivial) (laws_markInt64SS_nst_l0_be v3738 v3739 v3740) rfl (by intro x; rfl) h
noncomputable def laws_markInt64SS_nst_T (v3738 : List (List Int)) (v3739 : List Nat) (v3740 : Int) : Tree (Int × (List (List Int))) :=
  (.need (some (laws_markInt64SS_nst_l0_E v3738 v3739 v3740 (v3740, (0 : Int), v3738)) = some (laws_markInt64SS_nst_l0_E v3738 v3739 v3740 (v3740, (0 : Int), v3738))) <|
  (.call (laws_markInt64SS_nst_l0_g v3739 (v3740, (0 : Int), v3738)) fun v3765 =>
  .leaf (v3765.1, v3765.2)))

noncomputable def laws_markInt64SS_nst_g (v3738 : List (List Int)) (v3739 : List Nat) (v3740 : Int) : Option (Int × (List (List Int))) := (laws_markInt64SS_nst_T v3738 v3739 v3740).run
def laws_markInt64SS_nst_enc (v3738 : List (List Int)) (v3739 : List Nat) (v3740 : Int) (y : Int × (List (List Int))) : Rs := (.int .i64 y.1, [.nest [.sl (.i64 y.2) v3739] false 0])
theorem laws_markInt64SS_nst_den (v3738 : List (List Int)) (v3739 : List Nat) (v3740 : Int) : (den TT (tabD laws_markInt64SS_nst_tab) (tabM laws_markInt64SS_nst_tab) (laws_markInt64SS_nst_LO v3738 v3739 v3740) (codeOf Try.f29) ([.nest 0 0 1 ((v3739).length), .int .i64 v3740] ++ List.replicate (Try.f29.ntmps - ([.nest 0 0 1 ((v3739).length), .int .i64 v3740] : List DV).length) .undef) [.nest [.sl (.i64 v3738) v3739] false 0]).bind (retD TT Try.f29.results.toList 1) = (laws_markInt64SS_nst_T v3738 v3739 v3740).bind fun y => .leaf (laws_markInt64SS_nst_enc v3738 v3739 v3740 y) := by kernel_rfl
theorem laws_markInt64SS_nst_fn (v3738 : List (List Int)) (v3739 : List Nat) (v3740 : Int) (F : Fr) (h0 : St F [.nest [.sl (.i64 v3738) v3739] false 0] F.H0) (hA : DVs.Ok F [.nest [.sl (.i64 v3738) v3739] false 0] [.nest 0 0 1 ((v3739).length), .int .i64 v3740]) {y : Int × (List (List Int))} (hy : laws_markInt64SS_nst_g v3738 v3739 v3740 = some y) : ∃ F' H', Fwd 1 F F' [.nest [.sl (.i64 v3738) v3739] false 0] (laws_markInt64SS_nst_enc v3738 v3739 v3740 y).2 ∧ FnOk Try.prog 29 (DVs.av F [.nest 0 0 1 ((v3739).length), .int .i64 v3740]) F.H0 ((laws_markInt64SS_nst_enc v3738 v3739 v3740 y).1.av F') H' ∧ St F' (laws_markInt64SS_nst_enc v3738 v3739 v3740 y).2 H' ∧ (laws_markInt64SS_nst_enc v3738 v3739 v3740 y).1.Ok F' (laws_markInt64SS_nst_enc v3738 v3739 v3740 y).2 :=
  fn_fin tok laws_markInt64SS_nst_hO mixed Try.func29 Try.call29 (by kernel_rfl) (LoopsOk_eq (l := [(0, bodyOf Try.f29 0)]) (by kernel_rfl) ⟨laws_markInt64SS_nst_l0_ok v3738 v3739 v3740, trivial⟩) (laws_markInt64SS_nst_den v3738 v3739 v3740) hy h0 hA
noncomputable def laws_markInt64SS_nst_F : DFn := fun args L =>
  match args with
  | [a1, .int .i64 v3740] =>
    optT (nestN L false 1 a1) fun qn0 =>
    (match qn0.2 with
    | [.sl (.i64 v3738) v3739] =>
    (match sepB [qn0.1] [] with
    | true =>
    .call (laws_markInt64SS_nst_g v3738 v3739 v3740) fun y => .grd (decide ((v3739).length = (v3739).length)) (.leaf (.int .i64 y.1, setB L [(qn0.1, .nest [.sl (.i64 y.2) v3739] false (verAt L qn0.1))] ++ []))
    | false => .fail)
    | _ => .fail)
  | _ => .fail
theorem laws_markInt64SS_nst_Fok : COk Try.prog 29 laws_markInt64SS_nst_F false := by
  intro F L H args r L' hs ha hr
  unfold laws_markInt64SS_nst_F at hr
  split at hr
  · rename_i a1 v3740
    obtain ⟨⟨jn0, cn0⟩, hn0, hr⟩ := optT_run hr
    simp only at hr
    split at hr
    · rename_i v3738 v3739
      obtain ⟨hne0, hnu0, hnl0, hnv0, hnm0, hno0⟩ := nestN_spec hs (DVs.okAt ha 0 rfl) hn0
      split at hr
      · rename_i hsep
        obtain ⟨hnd, hsepv⟩ := sepB_spec hsep
        simp only [Tree.run] at hr
        obtain ⟨y, hy, hr⟩ := Option.bind_eq_some_iff.1 hr
        try simp only [Tree.run] at hr
        obtain ⟨hl0, hr⟩ := ite_run hr
        simp only [Option.some.injEq, Prod.mk.injEq] at hr
        obtain ⟨rfl, rfl⟩ := hr
        exact mutG_ok hs [a1] ⟨(DVs.okAt ha 0 rfl), trivial⟩ [a1, .int .i64 v3740] [.nest 0 0 1 ((v3739).length), .int .i64 v3740] [jn0] [verAt L jn0] [.nest [.sl (.i64 v3738) v3739] false 0] [.nest [.sl (.i64 y.2) v3739] false 0] [.nest [.sl (.i64 y.2) v3739] false (verAt L jn0)] [] hnd rfl rfl (fun j hj => by
            simp at hj
            subst hj; exact ex_nest hne0) (fun j hj => by
            simp at hj
            subst hj; exact reach_refs (by simp [DVs.refs, DV.refs, hnu0])) (fun F' h0 hρ ab hpl hS => by
            have ab0 := ab 0 _ rfl;
            have hnx0 : a1.av F = (.nest 0 0 1 ((v3739).length) : DV).av F' := nestN_av (hpl 0 _ rfl) hnv0
            refine ⟨fun i j b' h1 h2 => ?_, by simp [DBlk.blk, DVs.av, DV.av, BR.av, hρ, Row.len, hnx0, ab0, ab0], fun hst => laws_markInt64SS_nst_fn v3738 v3739 v3740 F' hst ⟨(nest_ok0 (i := 0) rfl rfl hnm0), trivial, trivial⟩ hy⟩
            rcases i with _ | i
            · simp at h1 h2; subst h1; subst h2; obtain ⟨ver_, hv_⟩ := hne0; exact ⟨_, hv_, .nest _ _ _ _, nest_blk (hpl 0 _ rfl) _ _ _ _, hno0 _ _⟩
            · simp at h1) rfl rfl (fun i j b b' h1 h2 h3 => by
            rcases i with _ | i
            · simp at h1; subst h1; cases h3; exact growN hne0 (by first | exact of_decide_eq_true hl0 | rfl) rfl h2
            · simp at h1)
      · cases hr
    · cases hr
  · cases hr
/-! laws.heldInt64S -/
noncomputable def laws_heldInt64S_l0_T (v3772 : List Int) (s : Int × Int) : Tree ((Int × Int) ⊕ ((Unit) ⊕ (Int))) :=
  (.br (decide (s.2 < ((v3772.length : Nat) : Int))) (
   (.grd (inb s.2 v3772.length) <|
   (.br (!decide (nth v3772 (Int.toNat s.2) = s.1)) (
    .leaf (.inr (.inl ()))
   ) (
    .leaf (.inl (IntKind.i64.wrap (s.1 + (1 : Int)), IntKind.i64.wrap (s.2 + (1 : Int))))
   )))
  ) (
   .leaf (.inr (.inr s.1))
  ))

noncomputable def laws_heldInt64S_l0_g (v3772 : List Int) (s0 : Int × Int) : Option ((Unit) ⊕ (Int)) := whileM (fun s => (laws_heldInt64S_l0_T v3772 s).run) s0
def laws_heldInt64S_l0_E (v3772 : List Int) (v3773 : Int) (s : Int × Int) : Sd := ([.bslc (BR.root 0) (.i64 v3772),.int .i64 s.1,tp,tp,tp,.int .i64 s.2,tp,tp,tp,tp,tp,tp,tp,tp,tp,tp,tp,tp,tp,tp,tp], [])
def laws_heldInt64S_l0_X (v3772 : List Int) (v3773 : Int) (x : (Unit) ⊕ (Int)) : Out := (match x with | .inl x => (.ret, [tp,tp,tp,tp,.int .i64 (-1 : Int),tp,tp,tp,tp,tp,tp,tp,tp,tp,tp,tp,tp,tp,tp,tp,tp], []) | .inr x => (.normal, [tp,.int .i64 x,tp,tp,tp,tp,tp,tp,tp,tp,tp,tp,tp,tp,tp,tp,tp,tp,tp,tp,tp], []))
def laws_heldInt64S_l0_kill : List Nat := KL true [0,2,3,1,15]
def laws_heldInt64S_l0_nx : Exit → List Nat
  | .exit 0 => KL true [1,1,19]
  | .ret => KL true [4,1,16]
  | _ => []
noncomputable def laws_heldInt64S_LO (v3772 : List Int) (v3773 : Int) : LOr := fun id e L =>
  match id with
  | 0 => .need (normA 0 laws_heldInt64S_l0_kill e L = some (laws_heldInt64S_l0_E v3772 v3773 ((gI (vAt e 1)), (gI (vAt e 5))))) (.call (laws_heldInt64S_l0_g v3772 ((gI (vAt e 1)), (gI (vAt e 5)))) fun x => .sum x (fun b0 => .leaf (laws_heldInt64S_l0_X v3772 v3773 (.inl b0))) (fun c0 => .leaf (laws_heldInt64S_l0_X v3772 v3773 (.inr c0))))
  | _ => .fail
noncomputable def laws_heldInt64S_tab : List (FuncId × DFn × Bool) := []
theorem laws_heldInt64S_hO : OrcOk Try.prog (tabD laws_heldInt64S_tab) (tabM laws_heldInt64S_tab) := tabD_nil _
theorem laws_heldInt64S_l0_be (v3772 : List Int) (v3773 : Int) (s : Int × Int) : bodyT TT (tabD laws_heldInt64S_tab) (tabM laws_heldInt64S_tab) (laws_heldInt64S_LO v3772 v3773) 0 laws_heldInt64S_l0_kill laws_heldInt64S_l0_nx (bodyOf Try.f25 0) 0 (laws_heldInt64S_l0_E v3772 v3773 s) = (laws_heldInt64S_l0_T v3772 s).bind fun y => .leaf (outS (laws_heldInt64S_l0_E v3772 v3773) (laws_heldInt64S_l0_X v3772 v3773) y) := by kernel_rfl
theorem laws_heldInt64S_l0_ok (v3772 : List Int) (v3773 : Int) : LSound Try.prog 0 (laws_heldInt64S_LO v3772 v3773) 0 (bodyOf Try.f25 0) := by
  intro e L out h
  exact lo_ok (E := laws_heldInt64S_l0_E v3772 v3773) (gT := laws_heldInt64S_l0_T v3772) (X := laws_heldInt64S_l0_X v3772 v3773) (s0 := ((gI (vAt e 1)), (gI (vAt e 5)))) tok laws_heldInt64S_hO mixed (LoopsOk_eq (l := []) (by kernel_rfl) trivial) (laws_heldInt64S_l0_be v3772 v3773) rfl (by intro x; (cases x with | inl b => rfl | inr x => exact rfl)) h
noncomputable def laws_heldInt64S_T (v3772 : List Int) (v3773 : Int) : Tree (Int) :=
  (.need (some (laws_heldInt64S_l0_E v3772 v3773 (v3773, (0 : Int))) = some (laws_heldInt64S_l0_E v3772 v3773 (v3773, (0 : Int)))) <|
  (.call (laws_heldInt64S_l0_g v3772 (v3773, (0 : Int))) fun v3780 =>
  (.sum v3780 (fun v3781 =>
   .leaf (-1 : Int)
  ) (fun v3782 =>
   .leaf v3782
  ))))

noncomputable def laws_heldInt64S_g (v3772 : List Int) (v3773 : Int) : Option (Int) := (laws_heldInt64S_T v3772 v3773).run
def laws_heldInt64S_enc (v3772 : List Int) (v3773 : Int) (y : Int) : Rs := (.int .i64 y, [])
theorem laws_heldInt64S_den (v3772 : List Int) (v3773 : Int) : (den TT (tabD laws_heldInt64S_tab) (tabM laws_heldInt64S_tab) (laws_heldInt64S_LO v3772 v3773) (codeOf Try.f25) ([.bslc (BR.root 0) (.i64 v3772), .int .i64 v3773] ++ List.replicate (Try.f25.ntmps - ([.bslc (BR.root 0) (.i64 v3772), .int .i64 v3773] : List DV).length) .undef) []).bind (retD TT Try.f25.results.toList 0) = (laws_heldInt64S_T v3772 v3773).bind fun y => .leaf (laws_heldInt64S_enc v3772 v3773 y) := by kernel_rfl
theorem laws_heldInt64S_fn (v3772 : List Int) (v3773 : Int) (F : Fr) (h0 : St F [] F.H0) (hA : DVs.Ok F [] [.bslc (BR.root 0) (.i64 v3772), .int .i64 v3773]) {y : Int} (hy : laws_heldInt64S_g v3772 v3773 = some y) : ∃ F' H', Fwd 0 F F' [] (laws_heldInt64S_enc v3772 v3773 y).2 ∧ FnOk Try.prog 25 (DVs.av F [.bslc (BR.root 0) (.i64 v3772), .int .i64 v3773]) F.H0 ((laws_heldInt64S_enc v3772 v3773 y).1.av F') H' ∧ St F' (laws_heldInt64S_enc v3772 v3773 y).2 H' ∧ (laws_heldInt64S_enc v3772 v3773 y).1.Ok F' (laws_heldInt64S_enc v3772 v3773 y).2 :=
  fn_fin tok laws_heldInt64S_hO mixed Try.func25 Try.call25 (by kernel_rfl) (LoopsOk_eq (l := [(0, bodyOf Try.f25 0)]) (by kernel_rfl) ⟨laws_heldInt64S_l0_ok v3772 v3773, trivial⟩) (laws_heldInt64S_den v3772 v3773) hy h0 hA
noncomputable def laws_heldInt64S_F : DFn := fun args L =>
  match args with
  | [a1, .int .i64 v3773] =>
    optT (rowI64 L a1) fun v3772 =>
    .call (laws_heldInt64S_g v3772 v3773) fun y => .leaf (.int .i64 y, L)
  | _ => .fail
theorem laws_heldInt64S_Fok : COk Try.prog 25 laws_heldInt64S_F true := by
  intro F L H args r L' hs ha hr
  unfold laws_heldInt64S_F at hr
  split at hr
  · rename_i a1 v3773
    obtain ⟨v3772, hv3772, hr⟩ := optT_run hr
    simp only [Tree.run] at hr
    obtain ⟨y, hy, hr⟩ := Option.bind_eq_some_iff.1 hr
    simp only [Tree.run, Option.some.injEq, Prod.mk.injEq] at hr
    obtain ⟨rfl, rfl⟩ := hr
    exact call_ok0 hs (fun k => (([a1.av F] : List AV)[k]?).getD .top) [a1, .int .i64 v3773] [.bslc (BR.root 0) (.i64 v3772), .int .i64 v3773] (fun F' h0 hi hρ => ⟨by simp [DVs.av, DV.av, BR.av, hρ], laws_heldInt64S_fn v3772 v3773 F' (st_nil hi) ⟨bslc_ok hi (by rw [h0, hρ]; exact rowI64_ok hs (DVs.okAt ha 0 rfl) hv3772), trivial, trivial⟩ hy⟩) rfl
  · cases hr
/-! laws.heldInt64SS -/
noncomputable def laws_heldInt64SS_nst_l0_T (v3767 : List (List Int)) (v3768 : List Nat) (s : Int × Int) : Tree ((Int × Int) ⊕ ((Unit) ⊕ (Int))) :=
  (.br (decide (s.2 < (((v3768).length : Nat) : Int))) (
   (.grd (inb s.2 ((v3768).length)) <|
   (.call (laws_heldInt64S_g (nget v3767 (nth v3768 (Int.toNat s.2))) s.1) fun v3789 =>
   (.br (decide (v3789 < (0 : Int))) (
    .leaf (.inr (.inl ()))
   ) (
    .leaf (.inl (v3789, IntKind.i64.wrap (s.2 + (1 : Int))))
   ))))
  ) (
   .leaf (.inr (.inr s.1))
  ))

noncomputable def laws_heldInt64SS_nst_l0_g (v3767 : List (List Int)) (v3768 : List Nat) (s0 : Int × Int) : Option ((Unit) ⊕ (Int)) := whileM (fun s => (laws_heldInt64SS_nst_l0_T v3767 v3768 s).run) s0
def laws_heldInt64SS_nst_l0_E (v3767 : List (List Int)) (v3768 : List Nat) (v3769 : Int) (s : Int × Int) : Sd := ([.nest 0 0 1 ((v3768).length),.int .i64 s.1,tp,tp,tp,.int .i64 s.2,tp,tp,tp,tp,tp,tp,tp,tp,tp,tp,tp,tp,tp,tp,tp], [.nest [.sl (.i64 v3767) v3768] false 0])
def laws_heldInt64SS_nst_l0_X (v3767 : List (List Int)) (v3768 : List Nat) (v3769 : Int) (x : (Unit) ⊕ (Int)) : Out := (match x with | .inl x => (.ret, [tp,tp,tp,tp,.int .i64 (-1 : Int),tp,tp,tp,tp,tp,tp,tp,tp,tp,tp,tp,tp,tp,tp,tp,tp], [.nest [.sl (.i64 v3767) v3768] false 0]) | .inr x => (.normal, [tp,.int .i64 x,tp,tp,tp,tp,tp,tp,tp,tp,tp,tp,tp,tp,tp,tp,tp,tp,tp,tp,tp], [.nest [.sl (.i64 v3767) v3768] false 0]))
def laws_heldInt64SS_nst_l0_kill : List Nat := KL true [0,2,3,1,15]
def laws_heldInt64SS_nst_l0_nx : Exit → List Nat
  | .exit 0 => KL true [1,1,19]
  | .ret => KL true [4,1,16]
  | _ => []
noncomputable def laws_heldInt64SS_nst_LO (v3767 : List (List Int)) (v3768 : List Nat) (v3769 : Int) : LOr := fun id e L =>
  match id with
  | 0 => .need (normA 1 laws_heldInt64SS_nst_l0_kill e L = some (laws_heldInt64SS_nst_l0_E v3767 v3768 v3769 ((gI (vAt e 1)), (gI (vAt e 5))))) (.call (laws_heldInt64SS_nst_l0_g v3767 v3768 ((gI (vAt e 1)), (gI (vAt e 5)))) fun x => .sum x (fun b0 => .leaf (laws_heldInt64SS_nst_l0_X v3767 v3768 v3769 (.inl b0))) (fun c0 => .leaf (laws_heldInt64SS_nst_l0_X v3767 v3768 v3769 (.inr c0))))
  | _ => .fail
noncomputable def laws_heldInt64SS_nst_tab : List (FuncId × DFn × Bool) := [(25, laws_heldInt64S_F, true)]
theorem laws_heldInt64SS_nst_hO : OrcOk Try.prog (tabD laws_heldInt64SS_nst_tab) (tabM laws_heldInt64SS_nst_tab) := tabD_cons laws_heldInt64S_Fok (tabD_nil _)
theorem laws_heldInt64SS_nst_l0_be (v3767 : List (List Int)) (v3768 : List Nat) (v3769 : Int) (s : Int × Int) : bodyT TT (tabD laws_heldInt64SS_nst_tab) (tabM laws_heldInt64SS_nst_tab) (laws_heldInt64SS_nst_LO v3767 v3768 v3769) 1 laws_heldInt64SS_nst_l0_kill laws_heldInt64SS_nst_l0_nx (bodyOf Try.f30 0) 0 (laws_heldInt64SS_nst_l0_E v3767 v3768 v3769 s) = (laws_heldInt64SS_nst_l0_T v3767 v3768 s).bind fun y => .leaf (outS (laws_heldInt64SS_nst_l0_E v3767 v3768 v3769) (laws_heldInt64SS_nst_l0_X v3767 v3768 v3769) y) := by kernel_rfl
theorem laws_heldInt64SS_nst_l0_ok (v3767 : List (List Int)) (v3768 : List Nat) (v3769 : Int) : LSound Try.prog 1 (laws_heldInt64SS_nst_LO v3767 v3768 v3769) 0 (bodyOf Try.f30 0) := by
  intro e L out h
  exact lo_ok (E := laws_heldInt64SS_nst_l0_E v3767 v3768 v3769) (gT := laws_heldInt64SS_nst_l0_T v3767 v3768) (X := laws_heldInt64SS_nst_l0_X v3767 v3768 v3769) (s0 := ((gI (vAt e 1)), (gI (vAt e 5)))) tok laws_heldInt64SS_nst_hO mixed (LoopsOk_eq (l := []) (by kernel_rfl) trivial) (laws_heldInt64SS_nst_l0_be v3767 v3768 v3769) rfl (by intro x; (cases x with | inl b => rfl | inr x => exact rfl)) h
noncomputable def laws_heldInt64SS_nst_T (v3767 : List (List Int)) (v3768 : List Nat) (v3769 : Int) : Tree (Int) :=
  (.need (some (laws_heldInt64SS_nst_l0_E v3767 v3768 v3769 (v3769, (0 : Int))) = some (laws_heldInt64SS_nst_l0_E v3767 v3768 v3769 (v3769, (0 : Int)))) <|
  (.call (laws_heldInt64SS_nst_l0_g v3767 v3768 (v3769, (0 : Int))) fun v3790 =>
  (.sum v3790 (fun v3791 =>
   .leaf (-1 : Int)
  ) (fun v3792 =>
   .leaf v3792
  ))))

noncomputable def laws_heldInt64SS_nst_g (v3767 : List (List Int)) (v3768 : List Nat) (v3769 : Int) : Option (Int) := (laws_heldInt64SS_nst_T v3767 v3768 v3769).run
def laws_heldInt64SS_nst_enc (v3767 : List (List Int)) (v3768 : List Nat) (v3769 : Int) (y : Int) : Rs := (.int .i64 y, [.nest [.sl (.i64 v3767) v3768] false 0])
theorem laws_heldInt64SS_nst_den (v3767 : List (List Int)) (v3768 : List Nat) (v3769 : Int) : (den TT (tabD laws_heldInt64SS_nst_tab) (tabM laws_heldInt64SS_nst_tab) (laws_heldInt64SS_nst_LO v3767 v3768 v3769) (codeOf Try.f30) ([.nest 0 0 1 ((v3768).length), .int .i64 v3769] ++ List.replicate (Try.f30.ntmps - ([.nest 0 0 1 ((v3768).length), .int .i64 v3769] : List DV).length) .undef) [.nest [.sl (.i64 v3767) v3768] false 0]).bind (retD TT Try.f30.results.toList 1) = (laws_heldInt64SS_nst_T v3767 v3768 v3769).bind fun y => .leaf (laws_heldInt64SS_nst_enc v3767 v3768 v3769 y) := by kernel_rfl
theorem laws_heldInt64SS_nst_fn (v3767 : List (List Int)) (v3768 : List Nat) (v3769 : Int) (F : Fr) (h0 : St F [.nest [.sl (.i64 v3767) v3768] false 0] F.H0) (hA : DVs.Ok F [.nest [.sl (.i64 v3767) v3768] false 0] [.nest 0 0 1 ((v3768).length), .int .i64 v3769]) {y : Int} (hy : laws_heldInt64SS_nst_g v3767 v3768 v3769 = some y) : ∃ F' H', Fwd 1 F F' [.nest [.sl (.i64 v3767) v3768] false 0] (laws_heldInt64SS_nst_enc v3767 v3768 v3769 y).2 ∧ FnOk Try.prog 30 (DVs.av F [.nest 0 0 1 ((v3768).length), .int .i64 v3769]) F.H0 ((laws_heldInt64SS_nst_enc v3767 v3768 v3769 y).1.av F') H' ∧ St F' (laws_heldInt64SS_nst_enc v3767 v3768 v3769 y).2 H' ∧ (laws_heldInt64SS_nst_enc v3767 v3768 v3769 y).1.Ok F' (laws_heldInt64SS_nst_enc v3767 v3768 v3769 y).2 :=
  fn_fin tok laws_heldInt64SS_nst_hO mixed Try.func30 Try.call30 (by kernel_rfl) (LoopsOk_eq (l := [(0, bodyOf Try.f30 0)]) (by kernel_rfl) ⟨laws_heldInt64SS_nst_l0_ok v3767 v3768 v3769, trivial⟩) (laws_heldInt64SS_nst_den v3767 v3768 v3769) hy h0 hA
noncomputable def laws_heldInt64SS_nst_F : DFn := fun args L =>
  match args with
  | [a1, .int .i64 v3769] =>
    optT (nestN L false 1 a1) fun qn0 =>
    (match qn0.2 with
    | [.sl (.i64 v3767) v3768] =>
    (match sepB [qn0.1] [] with
    | true =>
    .call (laws_heldInt64SS_nst_g v3767 v3768 v3769) fun y => .grd (decide ((v3768).length = (v3768).length)) (.leaf (.int .i64 y, setB L [(qn0.1, .nest [.sl (.i64 v3767) v3768] false (verAt L qn0.1))] ++ []))
    | false => .fail)
    | _ => .fail)
  | _ => .fail
theorem laws_heldInt64SS_nst_Fok : COk Try.prog 30 laws_heldInt64SS_nst_F false := by
  intro F L H args r L' hs ha hr
  unfold laws_heldInt64SS_nst_F at hr
  split at hr
  · rename_i a1 v3769
    obtain ⟨⟨jn0, cn0⟩, hn0, hr⟩ := optT_run hr
    simp only at hr
    split at hr
    · rename_i v3767 v3768
      obtain ⟨hne0, hnu0, hnl0, hnv0, hnm0, hno0⟩ := nestN_spec hs (DVs.okAt ha 0 rfl) hn0
      split at hr
      · rename_i hsep
        obtain ⟨hnd, hsepv⟩ := sepB_spec hsep
        simp only [Tree.run] at hr
        obtain ⟨y, hy, hr⟩ := Option.bind_eq_some_iff.1 hr
        try simp only [Tree.run] at hr
        obtain ⟨hl0, hr⟩ := ite_run hr
        simp only [Option.some.injEq, Prod.mk.injEq] at hr
        obtain ⟨rfl, rfl⟩ := hr
        exact mutG_ok hs [a1] ⟨(DVs.okAt ha 0 rfl), trivial⟩ [a1, .int .i64 v3769] [.nest 0 0 1 ((v3768).length), .int .i64 v3769] [jn0] [verAt L jn0] [.nest [.sl (.i64 v3767) v3768] false 0] [.nest [.sl (.i64 v3767) v3768] false 0] [.nest [.sl (.i64 v3767) v3768] false (verAt L jn0)] [] hnd rfl rfl (fun j hj => by
            simp at hj
            subst hj; exact ex_nest hne0) (fun j hj => by
            simp at hj
            subst hj; exact reach_refs (by simp [DVs.refs, DV.refs, hnu0])) (fun F' h0 hρ ab hpl hS => by
            have ab0 := ab 0 _ rfl;
            have hnx0 : a1.av F = (.nest 0 0 1 ((v3768).length) : DV).av F' := nestN_av (hpl 0 _ rfl) hnv0
            refine ⟨fun i j b' h1 h2 => ?_, by simp [DBlk.blk, DVs.av, DV.av, BR.av, hρ, Row.len, hnx0, ab0, ab0], fun hst => laws_heldInt64SS_nst_fn v3767 v3768 v3769 F' hst ⟨(nest_ok0 (i := 0) rfl rfl hnm0), trivial, trivial⟩ hy⟩
            rcases i with _ | i
            · simp at h1 h2; subst h1; subst h2; obtain ⟨ver_, hv_⟩ := hne0; exact ⟨_, hv_, .nest _ _ _ _, nest_blk (hpl 0 _ rfl) _ _ _ _, hno0 _ _⟩
            · simp at h1) rfl rfl (fun i j b b' h1 h2 h3 => by
            rcases i with _ | i
            · simp at h1; subst h1; cases h3; exact growN hne0 (by first | exact of_decide_eq_true hl0 | rfl) rfl h2
            · simp at h1)
      · cases hr
    · cases hr
  · cases hr
/-! laws.eqInt64SS -/
noncomputable def laws_eqInt64SS_nst_i1_l0_T (s : Unit) : Tree ((Unit) ⊕ (Unit)) :=
  (.br (decide ((0 : Int) < (0 : Int))) (
   .fail
  ) (
   .leaf (.inr ())
  ))

noncomputable def laws_eqInt64SS_nst_i1_l0_g (s0 : Unit) : Option (Unit) := whileM (fun s => (laws_eqInt64SS_nst_i1_l0_T s).run) s0
def laws_eqInt64SS_nst_i1_l0_E (v3806 : List (List Int)) (v3807 : List Nat) (s : Unit) : Sd := ([.nilslc,.nest 0 0 1 ((v3807).length),tp,tp,tp,.int .i64 (0 : Int),tp,tp,tp,tp,tp,tp,tp,tp,tp,tp,tp,tp,tp,tp,tp,tp,tp,tp,tp,tp,tp], [.nest [.sl (.i64 v3806) v3807] false 0])
def laws_eqInt64SS_nst_i1_l0_X (v3806 : List (List Int)) (v3807 : List Nat) (x : Unit) : Out := (.normal, [tp,tp,tp,tp,tp,tp,tp,tp,tp,tp,tp,tp,tp,tp,tp,tp,tp,tp,tp,tp,tp,tp,tp,tp,tp,tp,tp], [.nest [.sl (.i64 v3806) v3807] false 0])
def laws_eqInt64SS_nst_i1_l0_kill : List Nat := KL true [0,2,3,1,21]
def laws_eqInt64SS_nst_i1_l0_nx : Exit → List Nat
  | .exit 0 => KL true [27]
  | .ret => KL true [4,1,22]
  | _ => []
noncomputable def laws_eqInt64SS_nst_i1_LO (v3806 : List (List Int)) (v3807 : List Nat) : LOr := fun id e L =>
  match id with
  | 0 => .need (normA 1 laws_eqInt64SS_nst_i1_l0_kill e L = some (laws_eqInt64SS_nst_i1_l0_E v3806 v3807 ())) (.call (laws_eqInt64SS_nst_i1_l0_g ()) fun x => .leaf (laws_eqInt64SS_nst_i1_l0_X v3806 v3807 x))
  | _ => .fail
noncomputable def laws_eqInt64SS_nst_i1_tab : List (FuncId × DFn × Bool) := []
theorem laws_eqInt64SS_nst_i1_hO : OrcOk Try.prog (tabD laws_eqInt64SS_nst_i1_tab) (tabM laws_eqInt64SS_nst_i1_tab) := tabD_nil _
theorem laws_eqInt64SS_nst_i1_l0_be (v3806 : List (List Int)) (v3807 : List Nat) (s : Unit) : bodyT TT (tabD laws_eqInt64SS_nst_i1_tab) (tabM laws_eqInt64SS_nst_i1_tab) (laws_eqInt64SS_nst_i1_LO v3806 v3807) 1 laws_eqInt64SS_nst_i1_l0_kill laws_eqInt64SS_nst_i1_l0_nx (bodyOf Try.f28 0) 0 (laws_eqInt64SS_nst_i1_l0_E v3806 v3807 s) = (laws_eqInt64SS_nst_i1_l0_T s).bind fun y => .leaf (outS (laws_eqInt64SS_nst_i1_l0_E v3806 v3807) (laws_eqInt64SS_nst_i1_l0_X v3806 v3807) y) := by kernel_rfl
theorem laws_eqInt64SS_nst_i1_l0_ok (v3806 : List (List Int)) (v3807 : List Nat) : LSound Try.prog 1 (laws_eqInt64SS_nst_i1_LO v3806 v3807) 0 (bodyOf Try.f28 0) := by
  intro e L out h
  exact lo_ok (E := laws_eqInt64SS_nst_i1_l0_E v3806 v3807) (gT := laws_eqInt64SS_nst_i1_l0_T) (X := laws_eqInt64SS_nst_i1_l0_X v3806 v3807) (s0 := ()) tok laws_eqInt64SS_nst_i1_hO mixed (LoopsOk_eq (l := []) (by kernel_rfl) trivial) (laws_eqInt64SS_nst_i1_l0_be v3806 v3807) rfl (by intro x; rfl) h
noncomputable def laws_eqInt64SS_nst_i1_T (v3806 : List (List Int)) (v3807 : List Nat) : Tree (Bool) :=
  (.br (!decide ((0 : Int) = (((v3807).length : Nat) : Int))) (
   .leaf false
  ) (
   (.need (some (laws_eqInt64SS_nst_i1_l0_E v3806 v3807 ()) = some (laws_eqInt64SS_nst_i1_l0_E v3806 v3807 ())) <|
   (.call (laws_eqInt64SS_nst_i1_l0_g ()) fun v3809 =>
   .leaf true))
  ))

noncomputable def laws_eqInt64SS_nst_i1_g (v3806 : List (List Int)) (v3807 : List Nat) : Option (Bool) := (laws_eqInt64SS_nst_i1_T v3806 v3807).run
def laws_eqInt64SS_nst_i1_enc (v3806 : List (List Int)) (v3807 : List Nat) (y : Bool) : Rs := (.bool y, [.nest [.sl (.i64 v3806) v3807] false 0])
theorem laws_eqInt64SS_nst_i1_den (v3806 : List (List Int)) (v3807 : List Nat) : (den TT (tabD laws_eqInt64SS_nst_i1_tab) (tabM laws_eqInt64SS_nst_i1_tab) (laws_eqInt64SS_nst_i1_LO v3806 v3807) (codeOf Try.f28) ([.nilslc, .nest 0 0 1 ((v3807).length)] ++ List.replicate (Try.f28.ntmps - ([.nilslc, .nest 0 0 1 ((v3807).length)] : List DV).length) .undef) [.nest [.sl (.i64 v3806) v3807] false 0]).bind (retD TT Try.f28.results.toList 1) = (laws_eqInt64SS_nst_i1_T v3806 v3807).bind fun y => .leaf (laws_eqInt64SS_nst_i1_enc v3806 v3807 y) := by kernel_rfl
theorem laws_eqInt64SS_nst_i1_fn (v3806 : List (List Int)) (v3807 : List Nat) (F : Fr) (h0 : St F [.nest [.sl (.i64 v3806) v3807] false 0] F.H0) (hA : DVs.Ok F [.nest [.sl (.i64 v3806) v3807] false 0] [.nilslc, .nest 0 0 1 ((v3807).length)]) {y : Bool} (hy : laws_eqInt64SS_nst_i1_g v3806 v3807 = some y) : ∃ F' H', Fwd 1 F F' [.nest [.sl (.i64 v3806) v3807] false 0] (laws_eqInt64SS_nst_i1_enc v3806 v3807 y).2 ∧ FnOk Try.prog 28 (DVs.av F [.nilslc, .nest 0 0 1 ((v3807).length)]) F.H0 ((laws_eqInt64SS_nst_i1_enc v3806 v3807 y).1.av F') H' ∧ St F' (laws_eqInt64SS_nst_i1_enc v3806 v3807 y).2 H' ∧ (laws_eqInt64SS_nst_i1_enc v3806 v3807 y).1.Ok F' (laws_eqInt64SS_nst_i1_enc v3806 v3807 y).2 :=
  fn_fin tok laws_eqInt64SS_nst_i1_hO mixed Try.func28 Try.call28 (by kernel_rfl) (LoopsOk_eq (l := [(0, bodyOf Try.f28 0)]) (by kernel_rfl) ⟨laws_eqInt64SS_nst_i1_l0_ok v3806 v3807, trivial⟩) (laws_eqInt64SS_nst_i1_den v3806 v3807) hy h0 hA
noncomputable def laws_eqInt64SS_nst_i1_F : DFn := fun args L =>
  match args with
  | [.nilslc, a1] =>
    optT (nestN L false 1 a1) fun qn0 =>
    (match qn0.2 with
    | [.sl (.i64 v3806) v3807] =>
    (match sepB [qn0.1] [] with
    | true =>
    .call (laws_eqInt64SS_nst_i1_g v3806 v3807) fun y => .grd (decide ((v3807).length = (v3807).length)) (.leaf (.bool y, setB L [(qn0.1, .nest [.sl (.i64 v3806) v3807] false (verAt L qn0.1))] ++ []))
    | false => .fail)
    | _ => .fail)
  | _ => .fail
theorem laws_eqInt64SS_nst_i1_Fok : COk Try.prog 28 laws_eqInt64SS_nst_i1_F false := by
  intro F L H args r L' hs ha hr
  unfold laws_eqInt64SS_nst_i1_F at hr
  split at hr
  · rename_i a1
    obtain ⟨⟨jn0, cn0⟩, hn0, hr⟩ := optT_run hr
    simp only at hr
    split at hr
    · rename_i v3806 v3807
      obtain ⟨hne0, hnu0, hnl0, hnv0, hnm0, hno0⟩ := nestN_spec hs (DVs.okAt ha 1 rfl) hn0
      split at hr
      · rename_i hsep
        obtain ⟨hnd, hsepv⟩ := sepB_spec hsep
        simp only [Tree.run] at hr
        obtain ⟨y, hy, hr⟩ := Option.bind_eq_some_iff.1 hr
        try simp only [Tree.run] at hr
        obtain ⟨hl0, hr⟩ := ite_run hr
        simp only [Option.some.injEq, Prod.mk.injEq] at hr
        obtain ⟨rfl, rfl⟩ := hr
        exact mutG_ok hs [a1] ⟨(DVs.okAt ha 1 rfl), trivial⟩ [.nilslc, a1] [.nilslc, .nest 0 0 1 ((v3807).length)] [jn0] [verAt L jn0] [.nest [.sl (.i64 v3806) v3807] false 0] [.nest [.sl (.i64 v3806) v3807] false 0] [.nest [.sl (.i64 v3806) v3807] false (verAt L jn0)] [] hnd rfl rfl (fun j hj => by
            simp at hj
            subst hj; exact ex_nest hne0) (fun j hj => by
            simp at hj
            subst hj; exact reach_refs (by simp [DVs.refs, DV.refs, hnu0])) (fun F' h0 hρ ab hpl hS => by
            have ab0 := ab 0 _ rfl;
            have hnx0 : a1.av F = (.nest 0 0 1 ((v3807).length) : DV).av F' := nestN_av (hpl 0 _ rfl) hnv0
            refine ⟨fun i j b' h1 h2 => ?_, by simp [DBlk.blk, DVs.av, DV.av, BR.av, hρ, Row.len, hnx0, ab0, ab0], fun hst => laws_eqInt64SS_nst_i1_fn v3806 v3807 F' hst ⟨trivial, (nest_ok0 (i := 0) rfl rfl hnm0), trivial⟩ hy⟩
            rcases i with _ | i
            · simp at h1 h2; subst h1; subst h2; obtain ⟨ver_, hv_⟩ := hne0; exact ⟨_, hv_, .nest _ _ _ _, nest_blk (hpl 0 _ rfl) _ _ _ _, hno0 _ _⟩
            · simp at h1) rfl rfl (fun i j b b' h1 h2 h3 => by
            rcases i with _ | i
            · simp at h1; subst h1; cases h3; exact growN hne0 (by first | exact of_decide_eq_true hl0 | rfl) rfl h2
            · simp at h1)
      · cases hr
    · cases hr
  · cases hr
/-! laws.eqInt64SS -/
noncomputable def laws_eqInt64SS_nst_i2_l0_T (v3823 : List (List Int)) (v3824 : List Nat) (v3825 : List (List Int)) (v3826 : List Nat) (s : Int) : Tree ((Int) ⊕ ((Unit) ⊕ (Unit))) :=
  (.br (decide (s < (((v3824).length : Nat) : Int))) (
   (.grd (inb s ((v3824).length)) <|
   (.grd (inb s ((v3826).length)) <|
   (.call (laws_eqInt64S_g (nget v3823 (nth v3824 (Int.toNat s))) (nget v3825 (nth v3826 (Int.toNat s)))) fun v3832 =>
   (.br (!v3832) (
    .leaf (.inr (.inl ()))
   ) (
    .leaf (.inl (IntKind.i64.wrap (s + (1 : Int))))
   )))))
  ) (
   .leaf (.inr (.inr ()))
  ))

noncomputable def laws_eqInt64SS_nst_i2_l0_g (v3823 : List (List Int)) (v3824 : List Nat) (v3825 : List (List Int)) (v3826 : List Nat) (s0 : Int) : Option ((Unit) ⊕ (Unit)) := whileM (fun s => (laws_eqInt64SS_nst_i2_l0_T v3823 v3824 v3825 v3826 s).run) s0
def laws_eqInt64SS_nst_i2_l0_E (v3823 : List (List Int)) (v3824 : List Nat) (v3825 : List (List Int)) (v3826 : List Nat) (s : Int) : Sd := ([.nest 0 0 1 ((v3824).length),.nest 1 0 1 ((v3826).length),tp,tp,tp,.int .i64 s,tp,tp,tp,tp,tp,tp,tp,tp,tp,tp,tp,tp,tp,tp,tp,tp,tp,tp,tp,tp,tp], [.nest [.sl (.i64 v3823) v3824] false 0, .nest [.sl (.i64 v3825) v3826] false 0])
def laws_eqInt64SS_nst_i2_l0_X (v3823 : List (List Int)) (v3824 : List Nat) (v3825 : List (List Int)) (v3826 : List Nat) (x : (Unit) ⊕ (Unit)) : Out := (match x with | .inl x => (.ret, [tp,tp,tp,tp,.lit false,tp,tp,tp,tp,tp,tp,tp,tp,tp,tp,tp,tp,tp,tp,tp,tp,tp,tp,tp,tp,tp,tp], [.nest [.sl (.i64 v3823) v3824] false 0, .nest [.sl (.i64 v3825) v3826] false 0]) | .inr x => (.normal, [tp,tp,tp,tp,tp,tp,tp,tp,tp,tp,tp,tp,tp,tp,tp,tp,tp,tp,tp,tp,tp,tp,tp,tp,tp,tp,tp], [.nest [.sl (.i64 v3823) v3824] false 0, .nest [.sl (.i64 v3825) v3826] false 0]))
def laws_eqInt64SS_nst_i2_l0_kill : List Nat := KL true [0,2,3,1,21]
def laws_eqInt64SS_nst_i2_l0_nx : Exit → List Nat
  | .exit 0 => KL true [27]
  | .ret => KL true [4,1,22]
  | _ => []
noncomputable def laws_eqInt64SS_nst_i2_LO (v3823 : List (List Int)) (v3824 : List Nat) (v3825 : List (List Int)) (v3826 : List Nat) : LOr := fun id e L =>
  match id with
  | 0 => .need (normA 2 laws_eqInt64SS_nst_i2_l0_kill e L = some (laws_eqInt64SS_nst_i2_l0_E v3823 v3824 v3825 v3826 (gI (vAt e 5)))) (.call (laws_eqInt64SS_nst_i2_l0_g v3823 v3824 v3825 v3826 (gI (vAt e 5))) fun x => .sum x (fun b0 => .leaf (laws_eqInt64SS_nst_i2_l0_X v3823 v3824 v3825 v3826 (.inl b0))) (fun c0 => .leaf (laws_eqInt64SS_nst_i2_l0_X v3823 v3824 v3825 v3826 (.inr c0))))
  | _ => .fail
noncomputable def laws_eqInt64SS_nst_i2_tab : List (FuncId × DFn × Bool) := [(22, laws_eqInt64S_F, true)]
theorem laws_eqInt64SS_nst_i2_hO : OrcOk Try.prog (tabD laws_eqInt64SS_nst_i2_tab) (tabM laws_eqInt64SS_nst_i2_tab) := tabD_cons laws_eqInt64S_Fok (tabD_nil _)
theorem laws_eqInt64SS_nst_i2_l0_be (v3823 : List (List Int)) (v3824 : List Nat) (v3825 : List (List Int)) (v3826 : List Nat) (s : Int) : bodyT TT (tabD laws_eqInt64SS_nst_i2_tab) (tabM laws_eqInt64SS_nst_i2_tab) (laws_eqInt64SS_nst_i2_LO v3823 v3824 v3825 v3826) 2 laws_eqInt64SS_nst_i2_l0_kill laws_eqInt64SS_nst_i2_l0_nx (bodyOf Try.f28 0) 0 (laws_eqInt64SS_nst_i2_l0_E v3823 v3824 v3825 v3826 s) = (laws_eqInt64SS_nst_i2_l0_T v3823 v3824 v3825 v3826 s).bind fun y => .leaf (outS (laws_eqInt64SS_nst_i2_l0_E v3823 v3824 v3825 v3826) (laws_eqInt64SS_nst_i2_l0_X v3823 v3824 v3825 v3826) y) := by kernel_rfl
theorem laws_eqInt64SS_nst_i2_l0_ok (v3823 : List (List Int)) (v3824 : List Nat) (v3825 : List (List Int)) (v3826 : List Nat) : LSound Try.prog 2 (laws_eqInt64SS_nst_i2_LO v3823 v3824 v3825 v3826) 0 (bodyOf Try.f28 0) := by
  intro e L out h
  exact lo_ok (E := laws_eqInt64SS_nst_i2_l0_E v3823 v3824 v3825 v3826) (gT := laws_eqInt64SS_nst_i2_l0_T v3823 v3824 v3825 v3826) (X := laws_eqInt64SS_nst_i2_l0_X v3823 v3824 v3825 v3826) (s0 := (gI (vAt e 5))) tok laws_eqInt64SS_nst_i2_hO mixed (LoopsOk_eq (l := []) (by kernel_rfl) trivial) (laws_eqInt64SS_nst_i2_l0_be v3823 v3824 v3825 v3826) rfl (by intro x; (cases x with | inl b => rfl | inr x => exact rfl)) h
noncomputable def laws_eqInt64SS_nst_i2_T (v3823 : List (List Int)) (v3824 : List Nat) (v3825 : List (List Int)) (v3826 : List Nat) : Tree (Bool) :=
  (.br (!decide ((((v3824).length : Nat) : Int) = (((v3826).length : Nat) : Int))) (
   .leaf false
  ) (
   (.need (some (laws_eqInt64SS_nst_i2_l0_E v3823 v3824 v3825 v3826 (0 : Int)) = some (laws_eqInt64SS_nst_i2_l0_E v3823 v3824 v3825 v3826 (0 : Int))) <|
   (.call (laws_eqInt64SS_nst_i2_l0_g v3823 v3824 v3825 v3826 (0 : Int)) fun v3833 =>
   (.sum v3833 (fun v3834 =>
    .leaf false
   ) (fun v3835 =>
    .leaf true
   ))))
  ))

noncomputable def laws_eqInt64SS_nst_i2_g (v3823 : List (List Int)) (v3824 : List Nat) (v3825 : List (List Int)) (v3826 : List Nat) : Option (Bool) := (laws_eqInt64SS_nst_i2_T v3823 v3824 v3825 v3826).run
def laws_eqInt64SS_nst_i2_enc (v3823 : List (List Int)) (v3824 : List Nat) (v3825 : List (List Int)) (v3826 : List Nat) (y : Bool) : Rs := (.bool y, [.nest [.sl (.i64 v3823) v3824] false 0, .nest [.sl (.i64 v3825) v3826] false 0])
theorem laws_eqInt64SS_nst_i2_den (v3823 : List (List Int)) (v3824 : List Nat) (v3825 : List (List Int)) (v3826 : List Nat) : (den TT (tabD laws_eqInt64SS_nst_i2_tab) (tabM laws_eqInt64SS_nst_i2_tab) (laws_eqInt64SS_nst_i2_LO v3823 v3824 v3825 v3826) (codeOf Try.f28) ([.nest 0 0 1 ((v3824).length), .nest 1 0 1 ((v3826).length)] ++ List.replicate (Try.f28.ntmps - ([.nest 0 0 1 ((v3824).length), .nest 1 0 1 ((v3826).length)] : List DV).length) .undef) [.nest [.sl (.i64 v3823) v3824] false 0, .nest [.sl (.i64 v3825) v3826] false 0]).bind (retD TT Try.f28.results.toList 2) = (laws_eqInt64SS_nst_i2_T v3823 v3824 v3825 v3826).bind fun y => .leaf (laws_eqInt64SS_nst_i2_enc v3823 v3824 v3825 v3826 y) := by kernel_rfl
theorem laws_eqInt64SS_nst_i2_fn (v3823 : List (List Int)) (v3824 : List Nat) (v3825 : List (List Int)) (v3826 : List Nat) (F : Fr) (h0 : St F [.nest [.sl (.i64 v3823) v3824] false 0, .nest [.sl (.i64 v3825) v3826] false 0] F.H0) (hA : DVs.Ok F [.nest [.sl (.i64 v3823) v3824] false 0, .nest [.sl (.i64 v3825) v3826] false 0] [.nest 0 0 1 ((v3824).length), .nest 1 0 1 ((v3826).length)]) {y : Bool} (hy : laws_eqInt64SS_nst_i2_g v3823 v3824 v3825 v3826 = some y) : ∃ F' H', Fwd 2 F F' [.nest [.sl (.i64 v3823) v3824] false 0, .nest [.sl (.i64 v3825) v3826] false 0] (laws_eqInt64SS_nst_i2_enc v3823 v3824 v3825 v3826 y).2 ∧ FnOk Try.prog 28 (DVs.av F [.nest 0 0 1 ((v3824).length), .nest 1 0 1 ((v3826).length)]) F.H0 ((laws_eqInt64SS_nst_i2_enc v3823 v3824 v3825 v3826 y).1.av F') H' ∧ St F' (laws_eqInt64SS_nst_i2_enc v3823 v3824 v3825 v3826 y).2 H' ∧ (laws_eqInt64SS_nst_i2_enc v3823 v3824 v3825 v3826 y).1.Ok F' (laws_eqInt64SS_nst_i2_enc v3823 v3824 v3825 v3826 y).2 :=
  fn_fin tok laws_eqInt64SS_nst_i2_hO mixed Try.func28 Try.call28 (by kernel_rfl) (LoopsOk_eq (l := [(0, bodyOf Try.f28 0)]) (by kernel_rfl) ⟨laws_eqInt64SS_nst_i2_l0_ok v3823 v3824 v3825 v3826, trivial⟩) (laws_eqInt64SS_nst_i2_den v3823 v3824 v3825 v3826) hy h0 hA
noncomputable def laws_eqInt64SS_nst_i2_F : DFn := fun args L =>
  match args with
  | [a1, a2] =>
    optT (nestN L false 1 a1) fun qn0 =>
    (match qn0.2 with
    | [.sl (.i64 v3823) v3824] =>
    optT (nestN L false 1 a2) fun qn1 =>
    (match qn1.2 with
    | [.sl (.i64 v3825) v3826] =>
    (match sepB [qn0.1, qn1.1] [] with
    | true =>
    .call (laws_eqInt64SS_nst_i2_g v3823 v3824 v3825 v3826) fun y => .grd (decide ((v3824).length = (v3824).length)) (.grd (decide ((v3826).length = (v3826).length)) (.leaf (.bool y, setB L [(qn0.1, .nest [.sl (.i64 v3823) v3824] false (verAt L qn0.1)), (qn1.1, .nest [.sl (.i64 v3825) v3826] false (verAt L qn1.1))] ++ [])))
    | false => .fail)
    | _ => .fail)
    | _ => .fail)
  | _ => .fail
theorem laws_eqInt64SS_nst_i2_Fok : COk Try.prog 28 laws_eqInt64SS_nst_i2_F false := by
  intro F L H args r L' hs ha hr
  unfold laws_eqInt64SS_nst_i2_F at hr
  split at hr
  · rename_i a1 a2
    obtain ⟨⟨jn0, cn0⟩, hn0, hr⟩ := optT_run hr
    simp only at hr
    split at hr
    · rename_i v3823 v3824
      obtain ⟨hne0, hnu0, hnl0, hnv0, hnm0, hno0⟩ := nestN_spec hs (DVs.okAt ha 0 rfl) hn0
      obtain ⟨⟨jn1, cn1⟩, hn1, hr⟩ := optT_run hr
      simp only at hr
      split at hr
      · rename_i v3825 v3826
        obtain ⟨hne1, hnu1, hnl1, hnv1, hnm1, hno1⟩ := nestN_spec hs (DVs.okAt ha 1 rfl) hn1
        split at hr
        · rename_i hsep
          obtain ⟨hnd, hsepv⟩ := sepB_spec hsep
          simp only [Tree.run] at hr
          obtain ⟨y, hy, hr⟩ := Option.bind_eq_some_iff.1 hr
          try simp only [Tree.run] at hr
          obtain ⟨hl0, hr⟩ := ite_run hr
          obtain ⟨hl1, hr⟩ := ite_run hr
          simp only [Option.some.injEq, Prod.mk.injEq] at hr
          obtain ⟨rfl, rfl⟩ := hr
          exact mutG_ok hs [a1, a2] ⟨(DVs.okAt ha 0 rfl), (DVs.okAt ha 1 rfl), trivial⟩ [a1, a2] [.nest 0 0 1 ((v3824).length), .nest 1 0 1 ((v3826).length)] [jn0, jn1] [verAt L jn0, verAt L jn1] [.nest [.sl (.i64 v3823) v3824] false 0, .nest [.sl (.i64 v3825) v3826] false 0] [.nest [.sl (.i64 v3823) v3824] false 0, .nest [.sl (.i64 v3825) v3826] false 0] [.nest [.sl (.i64 v3823) v3824] false (verAt L jn0), .nest [.sl (.i64 v3825) v3826] false (verAt L jn1)] [] hnd rfl rfl (fun j hj => by
              simp at hj
              rcases hj with rfl | rfl
              · exact ex_nest hne0
              · exact ex_nest hne1) (fun j hj => by
              simp at hj
              rcases hj with rfl | rfl
              · exact reach_refs (by simp [DVs.refs, DV.refs, hnu0])
              · exact reach_refs (by simp [DVs.refs, DV.refs, hnu1])) (fun F' h0 hρ ab hpl hS => by
              have ab0 := ab 0 _ rfl; have ab1 := ab 1 _ rfl;
              have hnx0 : a1.av F = (.nest 0 0 1 ((v3824).length) : DV).av F' := nestN_av (hpl 0 _ rfl) hnv0
              have hnx1 : a2.av F = (.nest 1 0 1 ((v3826).length) : DV).av F' := nestN_av (hpl 1 _ rfl) hnv1
              refine ⟨fun i j b' h1 h2 => ?_, by simp [DBlk.blk, DVs.av, DV.av, BR.av, hρ, Row.len, hnx0, hnx1, ab0, ab0, ab1, ab1], fun hst => laws_eqInt64SS_nst_i2_fn v3823 v3824 v3825 v3826 F' hst ⟨(nest_ok0 (i := 0) rfl rfl hnm0), (nest_ok0 (i := 1) rfl rfl hnm1), trivial⟩ hy⟩
              rcases i with _ | _ | i
              · simp at h1 h2; subst h1; subst h2; obtain ⟨ver_, hv_⟩ := hne0; exact ⟨_, hv_, .nest _ _ _ _, nest_blk (hpl 0 _ rfl) _ _ _ _, hno0 _ _⟩
              · simp at h1 h2; subst h1; subst h2; obtain ⟨ver_, hv_⟩ := hne1; exact ⟨_, hv_, .nest _ _ _ _, nest_blk (hpl 1 _ rfl) _ _ _ _, hno1 _ _⟩
              · simp at h1) rfl rfl (fun i j b b' h1 h2 h3 => by
              rcases i with _ | _ | i
              · simp at h1; subst h1; cases h3; exact growN hne0 (by first | exact of_decide_eq_true hl0 | rfl) rfl h2
              · simp at h1; subst h1; cases h3; exact growN hne1 (by first | exact of_decide_eq_true hl1 | rfl) rfl h2
              · simp at h1)
        · cases hr
      · cases hr
    · cases hr
  · cases hr
/-! laws.FnExactNullOver -/
noncomputable def laws_FnExactNullOver_LO (v1 : Int) (v2 : Int) (v3 : List Int) (v4 : Int) : LOr := fun id e L =>
  match id with
  | _ => .fail
noncomputable def laws_FnExactNullOver_tab : List (FuncId × DFn × Bool) := [(12, laws_szWhole_F, true), (14, laws_toWhole_F, true), (26, spec_NullOver_F, true), (27, impl_NullOver_F, true), (28, (orD (fun args => match args with | [.nilslc, .nilslc] => true | _ => false) laws_eqInt64SS_F (orD (fun args => match args with | [_, .nilslc] => true | _ => false) laws_eqInt64SS_nst_F (orD (fun args => match args with | [.nilslc, _] => true | _ => false) laws_eqInt64SS_nst_i1_F laws_eqInt64SS_nst_i2_F))), false), (16, laws_eqWhole_F, true), (23, laws_markWhole_F, false), (29, (orD (fun args => match args with | [.nilslc, _] => true | _ => false) laws_markInt64SS_F laws_markInt64SS_nst_F), false), (30, (orD (fun args => match args with | [.nilslc, _] => true | _ => false) laws_heldInt64SS_F laws_heldInt64SS_nst_F), false)]
theorem laws_FnExactNullOver_hO : OrcOk Try.prog (tabD laws_FnExactNullOver_tab) (tabM laws_FnExactNullOver_tab) := tabD_cons laws_szWhole_Fok (tabD_cons laws_toWhole_Fok (tabD_cons spec_NullOver_Fok (tabD_cons impl_NullOver_Fok (tabD_cons (orD_ok (COk.weak laws_eqInt64SS_Fok) (orD_ok laws_eqInt64SS_nst_Fok (orD_ok laws_eqInt64SS_nst_i1_Fok laws_eqInt64SS_nst_i2_Fok))) (tabD_cons laws_eqWhole_Fok (tabD_cons laws_markWhole_Fok (tabD_cons (orD_ok (COk.weak laws_markInt64SS_Fok) laws_markInt64SS_nst_Fok) (tabD_cons (orD_ok (COk.weak laws_heldInt64SS_Fok) laws_heldInt64SS_nst_Fok) (tabD_nil _)))))))))
noncomputable def laws_FnExactNullOver_T (v1 : Int) (v2 : Int) (v3 : List Int) (v4 : Int) : Tree (Bool) :=
  (.br (decide ((laws_szWhole_v v3 (1048576 : Int)) < (0 : Int))) (
   .leaf true
  ) (
   (.call (laws_toWhole_g v1 v2 v3) fun v22 =>
   (.call (spec_NullOver_g v22.1 v22.2.1 v22.2.2 v4) fun v1200 =>
   (.sum v1200 (fun v1201 =>
    (.call (laws_toWhole_g v1 v2 v3) fun v1203 =>
    (.call (impl_NullOver_g v1203.1 v1203.2.1 v1203.2.2 v4) fun v3662 =>
    (.sum v3662 (fun v3663 =>
     (.call laws_eqInt64SS_g fun v3667 =>
     (.br (!v3667) (
      .leaf false
     ) (
      (.br (!(false == false)) (
       .leaf false
      ) (
       (.call (laws_toWhole_g v1 v2 v3) fun v3668 =>
       (.call (laws_eqWhole_g v1203.1 v1203.2.1 v1203.2.2 v3668.1 v3668.2.1 v3668.2.2) fun v3684 =>
       (.br (!v3684) (
        .leaf false
       ) (
        (.call (laws_markWhole_g v1203.2.2 (1 : Int)) fun v3709 =>
        (.grd (decide (v3709.2.length = v1203.2.2.length)) <|
        (.br (decide (v3709.1 < (0 : Int))) (
         .leaf false
        ) (
         (.call laws_eqInt64SS_g fun v3710 =>
         (.br (!v3710) (
          .leaf false
         ) (
          (.br (!(false == false)) (
           .leaf false
          ) (
           (.call (laws_markInt64SS_g (1 : Int)) fun v3715 =>
           (.call (laws_heldInt64SS_g (1 : Int)) fun v3720 =>
           (.br (decide (v3720 < (0 : Int))) (
            .leaf false
           ) (
            (.br (!decide (v3720 = v3715)) (
             .leaf false
            ) (
             (.call (laws_toWhole_g v1 v2 v3) fun v3721 =>
             (.call (impl_NullOver_g v3721.1 v3721.2.1 v3721.2.2 v4) fun v3722 =>
             (.sum v3722 (fun v3723 =>
              (.call laws_eqInt64SS_g fun v3725 =>
              (.br (!v3725) (
               .leaf false
              ) (
               (.br (!(false == false)) (
                .leaf false
               ) (
                (.call (laws_heldInt64SS_g (1 : Int)) fun v3726 =>
                (.br (decide (v3726 < (0 : Int))) (
                 .leaf false
                ) (
                 (.br (!decide (v3726 = v3715)) (
                  .leaf false
                 ) (
                  .leaf true
                 ))
                )))
               ))
              )))
             ) (fun v3724 =>
              (.call (laws_eqInt64SS_nst_g v3724.1 v3724.2) fun v3731 =>
              (.grd (decide ((v3724.2).length = (v3724.2).length)) <|
              (.br (!v3731) (
               .leaf false
              ) (
               (.br (!(true == false)) (
                .leaf false
               ) (
                (.call (laws_heldInt64SS_g (1 : Int)) fun v3732 =>
                (.br (decide (v3732 < (0 : Int))) (
                 .leaf false
                ) (
                 (.br (!decide (v3732 = v3715)) (
                  .leaf false
                 ) (
                  .leaf true
                 ))
                )))
               ))
              ))))
             ))))
            ))
           ))))
          ))
         )))
        ))))
       ))))
      ))
     )))
    ) (fun v3664 =>
     (.call (laws_eqInt64SS_nst_g v3664.1 v3664.2) fun v3733 =>
     (.grd (decide ((v3664.2).length = (v3664.2).length)) <|
     (.br (!v3733) (
      .leaf false
     ) (
      (.br (!(true == false)) (
       .leaf false
      ) (
       (.call (laws_toWhole_g v1 v2 v3) fun v3734 =>
       (.call (laws_eqWhole_g v1203.1 v1203.2.1 v1203.2.2 v3734.1 v3734.2.1 v3734.2.2) fun v3735 =>
       (.br (!v3735) (
        .leaf false
       ) (
        (.call (laws_markWhole_g v1203.2.2 (1 : Int)) fun v3736 =>
        (.grd (decide (v3736.2.length = v1203.2.2.length)) <|
        (.br (decide (v3736.1 < (0 : Int))) (
         .leaf false
        ) (
         (.call (laws_eqInt64SS_nst_g v3664.1 v3664.2) fun v3737 =>
         (.grd (decide ((v3664.2).length = (v3664.2).length)) <|
         (.br (!v3737) (
          .leaf false
         ) (
          (.br (!(true == false)) (
           .leaf false
          ) (
           (.call (laws_markInt64SS_nst_g v3664.1 v3664.2 (1 : Int)) fun v3766 =>
           (.grd (decide ((v3664.2).length = (v3664.2).length)) <|
           (.call (laws_heldInt64SS_nst_g v3766.2 v3664.2 (1 : Int)) fun v3793 =>
           (.grd (decide ((v3664.2).length = (v3664.2).length)) <|
           (.br (decide (v3793 < (0 : Int))) (
            .leaf false
           ) (
            (.br (!decide (v3793 = v3766.1)) (
             .leaf false
            ) (
             (.call (laws_toWhole_g v1 v2 v3) fun v3794 =>
             (.call (impl_NullOver_g v3794.1 v3794.2.1 v3794.2.2 v4) fun v3795 =>
             (.sum v3795 (fun v3796 =>
              (.call laws_eqInt64SS_g fun v3798 =>
              (.br (!v3798) (
               .leaf false
              ) (
               (.br (!(false == false)) (
                .leaf false
               ) (
                (.call (laws_heldInt64SS_nst_g v3766.2 v3664.2 (1 : Int)) fun v3799 =>
                (.grd (decide ((v3664.2).length = (v3664.2).length)) <|
                (.br (decide (v3799 < (0 : Int))) (
                 .leaf false
                ) (
                 (.br (!decide (v3799 = v3766.1)) (
                  .leaf false
                 ) (
                  .leaf true
                 ))
                ))))
               ))
              )))
             ) (fun v3797 =>
              (.call (laws_eqInt64SS_nst_g v3797.1 v3797.2) fun v3800 =>
              (.grd (decide ((v3797.2).length = (v3797.2).length)) <|
              (.br (!v3800) (
               .leaf false
              ) (
               (.br (!(true == false)) (
                .leaf false
               ) (
                (.call (laws_heldInt64SS_nst_g v3766.2 v3664.2 (1 : Int)) fun v3801 =>
                (.grd (decide ((v3664.2).length = (v3664.2).length)) <|
                (.br (decide (v3801 < (0 : Int))) (
                 .leaf false
                ) (
                 (.br (!decide (v3801 = v3766.1)) (
                  .leaf false
                 ) (
                  .leaf true
                 ))
                ))))
               ))
              ))))
             ))))
            ))
           ))))))
          ))
         ))))
        ))))
       ))))
      ))
     ))))
    ))))
   ) (fun v1202 =>
    (.call (laws_toWhole_g v1 v2 v3) fun v3802 =>
    (.call (impl_NullOver_g v3802.1 v3802.2.1 v3802.2.2 v4) fun v3803 =>
    (.sum v3803 (fun v3804 =>
     (.call (laws_eqInt64SS_nst_i1_g v1202.1 v1202.2) fun v3810 =>
     (.grd (decide ((v1202.2).length = (v1202.2).length)) <|
     (.br (!v3810) (
      .leaf false
     ) (
      (.br (!(false == true)) (
       .leaf false
      ) (
       (.call (laws_toWhole_g v1 v2 v3) fun v3811 =>
       (.call (laws_eqWhole_g v3802.1 v3802.2.1 v3802.2.2 v3811.1 v3811.2.1 v3811.2.2) fun v3812 =>
       (.br (!v3812) (
        .leaf false
       ) (
        (.call (laws_markWhole_g v3802.2.2 (1 : Int)) fun v3813 =>
        (.grd (decide (v3813.2.length = v3802.2.2.length)) <|
        (.br (decide (v3813.1 < (0 : Int))) (
         .leaf false
        ) (
         (.call (laws_eqInt64SS_nst_i1_g v1202.1 v1202.2) fun v3814 =>
         (.grd (decide ((v1202.2).length = (v1202.2).length)) <|
         (.br (!v3814) (
          .leaf false
         ) (
          (.br (!(false == true)) (
           .leaf false
          ) (
           (.call (laws_markInt64SS_g (1 : Int)) fun v3815 =>
           (.call (laws_heldInt64SS_g (1 : Int)) fun v3816 =>
           (.br (decide (v3816 < (0 : Int))) (
            .leaf false
           ) (
            (.br (!decide (v3816 = v3815)) (
             .leaf false
            ) (
             (.call (laws_toWhole_g v1 v2 v3) fun v3817 =>
             (.call (impl_NullOver_g v3817.1 v3817.2.1 v3817.2.2 v4) fun v3818 =>
             (.sum v3818 (fun v3819 =>
              (.call (laws_eqInt64SS_nst_i1_g v1202.1 v1202.2) fun v3821 =>
              (.grd (decide ((v1202.2).length = (v1202.2).length)) <|
              (.br (!v3821) (
               .leaf false
              ) (
               (.br (!(false == true)) (
                .leaf false
               ) (
                (.call (laws_heldInt64SS_g (1 : Int)) fun v3822 =>
                (.br (decide (v3822 < (0 : Int))) (
                 .leaf false
                ) (
                 (.br (!decide (v3822 = v3815)) (
                  .leaf false
                 ) (
                  .leaf true
                 ))
                )))
               ))
              ))))
             ) (fun v3820 =>
              (.call (laws_eqInt64SS_nst_i2_g v3820.1 v3820.2 v1202.1 v1202.2) fun v3836 =>
              (.grd (decide ((v3820.2).length = (v3820.2).length)) <|
              (.grd (decide ((v1202.2).length = (v1202.2).length)) <|
              (.br (!v3836) (
               .leaf false
              ) (
               (.br (!(true == true)) (
                .leaf false
               ) (
                (.call (laws_heldInt64SS_g (1 : Int)) fun v3837 =>
                (.br (decide (v3837 < (0 : Int))) (
                 .leaf false
                ) (
                 (.br (!decide (v3837 = v3815)) (
                  .leaf false
                 ) (
                  .leaf true
                 ))
                )))
               ))
              )))))
             ))))
            ))
           ))))
          ))
         ))))
        ))))
       ))))
      ))
     ))))
    ) (fun v3805 =>
     (.call (laws_eqInt64SS_nst_i2_g v3805.1 v3805.2 v1202.1 v1202.2) fun v3838 =>
     (.grd (decide ((v3805.2).length = (v3805.2).length)) <|
     (.grd (decide ((v1202.2).length = (v1202.2).length)) <|
     (.br (!v3838) (
      .leaf false
     ) (
      (.br (!(true == true)) (
       .leaf false
      ) (
       (.call (laws_toWhole_g v1 v2 v3) fun v3839 =>
       (.call (laws_eqWhole_g v3802.1 v3802.2.1 v3802.2.2 v3839.1 v3839.2.1 v3839.2.2) fun v3840 =>
       (.br (!v3840) (
        .leaf false
       ) (
        (.call (laws_markWhole_g v3802.2.2 (1 : Int)) fun v3841 =>
        (.grd (decide (v3841.2.length = v3802.2.2.length)) <|
        (.br (decide (v3841.1 < (0 : Int))) (
         .leaf false
        ) (
         (.call (laws_eqInt64SS_nst_i2_g v3805.1 v3805.2 v1202.1 v1202.2) fun v3842 =>
         (.grd (decide ((v3805.2).length = (v3805.2).length)) <|
         (.grd (decide ((v1202.2).length = (v1202.2).length)) <|
         (.br (!v3842) (
          .leaf false
         ) (
          (.br (!(true == true)) (
           .leaf false
          ) (
           (.call (laws_markInt64SS_nst_g v3805.1 v3805.2 (1 : Int)) fun v3843 =>
           (.grd (decide ((v3805.2).length = (v3805.2).length)) <|
           (.call (laws_heldInt64SS_nst_g v3843.2 v3805.2 (1 : Int)) fun v3844 =>
           (.grd (decide ((v3805.2).length = (v3805.2).length)) <|
           (.br (decide (v3844 < (0 : Int))) (
            .leaf false
           ) (
            (.br (!decide (v3844 = v3843.1)) (
             .leaf false
            ) (
             (.call (laws_toWhole_g v1 v2 v3) fun v3845 =>
             (.call (impl_NullOver_g v3845.1 v3845.2.1 v3845.2.2 v4) fun v3846 =>
             (.sum v3846 (fun v3847 =>
              (.call (laws_eqInt64SS_nst_i1_g v1202.1 v1202.2) fun v3849 =>
              (.grd (decide ((v1202.2).length = (v1202.2).length)) <|
              (.br (!v3849) (
               .leaf false
              ) (
               (.br (!(false == true)) (
                .leaf false
               ) (
                (.call (laws_heldInt64SS_nst_g v3843.2 v3805.2 (1 : Int)) fun v3850 =>
                (.grd (decide ((v3805.2).length = (v3805.2).length)) <|
                (.br (decide (v3850 < (0 : Int))) (
                 .leaf false
                ) (
                 (.br (!decide (v3850 = v3843.1)) (
                  .leaf false
                 ) (
                  .leaf true
                 ))
                ))))
               ))
              ))))
             ) (fun v3848 =>
              (.call (laws_eqInt64SS_nst_i2_g v3848.1 v3848.2 v1202.1 v1202.2) fun v3851 =>
              (.grd (decide ((v3848.2).length = (v3848.2).length)) <|
              (.grd (decide ((v1202.2).length = (v1202.2).length)) <|
              (.br (!v3851) (
               .leaf false
              ) (
               (.br (!(true == true)) (
                .leaf false
               ) (
                (.call (laws_heldInt64SS_nst_g v3843.2 v3805.2 (1 : Int)) fun v3852 =>
                (.grd (decide ((v3805.2).length = (v3805.2).length)) <|
                (.br (decide (v3852 < (0 : Int))) (
                 .leaf false
                ) (
                 (.br (!decide (v3852 = v3843.1)) (
                  .leaf false
                 ) (
                  .leaf true
                 ))
                ))))
               ))
              )))))
             ))))
            ))
           ))))))
          ))
         )))))
        ))))
       ))))
      ))
     )))))
    ))))
   ))))
  ))

noncomputable def laws_FnExactNullOver_g (v1 : Int) (v2 : Int) (v3 : List Int) (v4 : Int) : Option (Bool) := (laws_FnExactNullOver_T v1 v2 v3 v4).run
def laws_FnExactNullOver_enc (v1 : Int) (v2 : Int) (v3 : List Int) (v4 : Int) (y : Bool) : Rs := (.bool y, [])
theorem laws_FnExactNullOver_den (v1 : Int) (v2 : Int) (v3 : List Int) (v4 : Int) : (den TT (tabD laws_FnExactNullOver_tab) (tabM laws_FnExactNullOver_tab) (laws_FnExactNullOver_LO v1 v2 v3 v4) (codeOf Try.f6) ([.agg [.int .i64 v1, .int .i64 v2, .bslc (BR.root 0) (.i64 v3)], .int .i64 v4] ++ List.replicate (Try.f6.ntmps - ([.agg [.int .i64 v1, .int .i64 v2, .bslc (BR.root 0) (.i64 v3)], .int .i64 v4] : List DV).length) .undef) []).bind (retD TT Try.f6.results.toList 0) = (laws_FnExactNullOver_T v1 v2 v3 v4).bind fun y => .leaf (laws_FnExactNullOver_enc v1 v2 v3 v4 y) := by kernel_rfl
theorem laws_FnExactNullOver_fn (v1 : Int) (v2 : Int) (v3 : List Int) (v4 : Int) (F : Fr) (h0 : St F [] F.H0) (hA : DVs.Ok F [] [.agg [.int .i64 v1, .int .i64 v2, .bslc (BR.root 0) (.i64 v3)], .int .i64 v4]) {y : Bool} (hy : laws_FnExactNullOver_g v1 v2 v3 v4 = some y) : ∃ F' H', Fwd 0 F F' [] (laws_FnExactNullOver_enc v1 v2 v3 v4 y).2 ∧ FnOk Try.prog 6 (DVs.av F [.agg [.int .i64 v1, .int .i64 v2, .bslc (BR.root 0) (.i64 v3)], .int .i64 v4]) F.H0 ((laws_FnExactNullOver_enc v1 v2 v3 v4 y).1.av F') H' ∧ St F' (laws_FnExactNullOver_enc v1 v2 v3 v4 y).2 H' ∧ (laws_FnExactNullOver_enc v1 v2 v3 v4 y).1.Ok F' (laws_FnExactNullOver_enc v1 v2 v3 v4 y).2 :=
  fn_fin tok laws_FnExactNullOver_hO mixed Try.func6 Try.call6 (by kernel_rfl) (LoopsOk_eq (l := []) (by kernel_rfl) trivial) (laws_FnExactNullOver_den v1 v2 v3 v4) hy h0 hA
noncomputable def laws_FnExactNullOver_F : DFn := fun args L =>
  match args with
  | [.agg [.int .i64 v1, .int .i64 v2, a1], .int .i64 v4] =>
    optT (rowI64 L a1) fun v3 =>
    .call (laws_FnExactNullOver_g v1 v2 v3 v4) fun y => .leaf (.bool y, L)
  | _ => .fail
theorem laws_FnExactNullOver_Fok : COk Try.prog 6 laws_FnExactNullOver_F true := by
  intro F L H args r L' hs ha hr
  unfold laws_FnExactNullOver_F at hr
  split at hr
  · rename_i v1 v2 a1 v4
    obtain ⟨v3, hv3, hr⟩ := optT_run hr
    simp only [Tree.run] at hr
    obtain ⟨y, hy, hr⟩ := Option.bind_eq_some_iff.1 hr
    simp only [Tree.run, Option.some.injEq, Prod.mk.injEq] at hr
    obtain ⟨rfl, rfl⟩ := hr
    exact call_ok0 hs (fun k => (([a1.av F] : List AV)[k]?).getD .top) [.agg [.int .i64 v1, .int .i64 v2, a1], .int .i64 v4] [.agg [.int .i64 v1, .int .i64 v2, .bslc (BR.root 0) (.i64 v3)], .int .i64 v4] (fun F' h0 hi hρ => ⟨by simp [DVs.av, DV.av, BR.av, hρ], laws_FnExactNullOver_fn v1 v2 v3 v4 F' (st_nil hi) ⟨⟨trivial, trivial, bslc_ok hi (by rw [h0, hρ]; exact rowI64_ok hs (DVs.okAt (DVs.okAt ha 0 rfl) 2 rfl) hv3), trivial⟩, trivial, trivial⟩ hy⟩) rfl
  · cases hr
/-! laws.szInt64S -/
noncomputable def laws_szInt64S_len_LO (v3861 : Nat) (v3862 : Int) : LOr := fun id e L =>
  match id with
  | _ => .fail
noncomputable def laws_szInt64S_len_tab : List (FuncId × DFn × Bool) := []
theorem laws_szInt64S_len_hO : OrcOk Try.prog (tabD laws_szInt64S_len_tab) (tabM laws_szInt64S_len_tab) := tabD_nil _
noncomputable def laws_szInt64S_len_T (v3861 : Nat) (v3862 : Int) : Tree (Int) :=
  (.br (decide (IntKind.i64.wrap (v3862 - ((v3861 : Nat) : Int)) < (0 : Int))) (
   .leaf (-1 : Int)
  ) (
   .leaf (IntKind.i64.wrap (v3862 - ((v3861 : Nat) : Int)))
  ))

noncomputable def laws_szInt64S_len_g (v3861 : Nat) (v3862 : Int) : Option (Int) := (laws_szInt64S_len_T v3861 v3862).run
def laws_szInt64S_len_enc (v3861 : Nat) (v3862 : Int) (y : Int) : Rs := (.int .i64 y, [])
theorem laws_szInt64S_len_den (v3861 : Nat) (v3862 : Int) : (den TT (tabD laws_szInt64S_len_tab) (tabM laws_szInt64S_len_tab) (laws_szInt64S_len_LO v3861 v3862) (codeOf Try.f59) ([.hslc (BR.root 0) v3861, .int .i64 v3862] ++ List.replicate (Try.f59.ntmps - ([.hslc (BR.root 0) v3861, .int .i64 v3862] : List DV).length) .undef) []).bind (retD TT Try.f59.results.toList 0) = (laws_szInt64S_len_T v3861 v3862).bind fun y => .leaf (laws_szInt64S_len_enc v3861 v3862 y) := by kernel_rfl
theorem laws_szInt64S_len_fn (v3861 : Nat) (v3862 : Int) (F : Fr) (h0 : St F [] F.H0) (hA : DVs.Ok F [] [.hslc (BR.root 0) v3861, .int .i64 v3862]) {y : Int} (hy : laws_szInt64S_len_g v3861 v3862 = some y) : ∃ F' H', Fwd 0 F F' [] (laws_szInt64S_len_enc v3861 v3862 y).2 ∧ FnOk Try.prog 59 (DVs.av F [.hslc (BR.root 0) v3861, .int .i64 v3862]) F.H0 ((laws_szInt64S_len_enc v3861 v3862 y).1.av F') H' ∧ St F' (laws_szInt64S_len_enc v3861 v3862 y).2 H' ∧ (laws_szInt64S_len_enc v3861 v3862 y).1.Ok F' (laws_szInt64S_len_enc v3861 v3862 y).2 :=
  fn_fin tok laws_szInt64S_len_hO mixed Try.func59 Try.call59 (by kernel_rfl) (LoopsOk_eq (l := []) (by kernel_rfl) trivial) (laws_szInt64S_len_den v3861 v3862) hy h0 hA
def laws_szInt64S_len_v (v3861 : Nat) (v3862 : Int) : Int :=
  if (decide (IntKind.i64.wrap (v3862 - ((v3861 : Nat) : Int)) < (0 : Int))) = true then (
   (-1 : Int)
  ) else (
   IntKind.i64.wrap (v3862 - ((v3861 : Nat) : Int))
  )
theorem laws_szInt64S_len_tot (v3861 : Nat) (v3862 : Int) : laws_szInt64S_len_g v3861 v3862 = some (laws_szInt64S_len_v v3861 v3862) := by
  unfold laws_szInt64S_len_g laws_szInt64S_len_T laws_szInt64S_len_v
  simp only [Tree.run]
  repeat' (first | rfl | split)
noncomputable def laws_szInt64S_len_F : DFn := fun args L =>
  match args with
  | [a1, .int .i64 v3862] =>
    optT (lenV L a1) fun v3861 =>
    .leaf (.int .i64 (laws_szInt64S_len_v v3861 v3862), L)
  | _ => .fail
theorem laws_szInt64S_len_Fok : COk Try.prog 59 laws_szInt64S_len_F true := by
  intro F L H args r L' hs ha hr
  unfold laws_szInt64S_len_F at hr
  split at hr
  · rename_i a1 v3862
    obtain ⟨v3861, hv3861, hr⟩ := optT_run hr
    have hy := laws_szInt64S_len_tot v3861 v3862
    generalize laws_szInt64S_len_v v3861 v3862 = y at hy hr
    simp only [Tree.run, Option.some.injEq, Prod.mk.injEq] at hr
    obtain ⟨rfl, rfl⟩ := hr
    exact call_ok0 hs (fun k => (([a1.av F] : List AV)[k]?).getD .top) [a1, .int .i64 v3862] [.hslc (BR.root 0) v3861, .int .i64 v3862] (fun F' h0 hi hρ => ⟨by simp [DVs.av, DV.av, BR.av, hρ], laws_szInt64S_len_fn v3861 v3862 F' (st_nil hi) ⟨hslc_ok hi (by rw [h0, hρ]; exact lenV_ok hs (DVs.okAt ha 0 rfl) hv3861), trivial, trivial⟩ hy⟩) rfl
  · cases hr
/-! laws.szWhole -/
noncomputable def laws_szWhole_len_LO (v3857 : Int) (v3858 : Int) (v3859 : Nat) (v3860 : Int) : LOr := fun id e L =>
  match id with
  | _ => .fail
noncomputable def laws_szWhole_len_tab : List (FuncId × DFn × Bool) := [(59, laws_szInt64S_len_F, true)]
theorem laws_szWhole_len_hO : OrcOk Try.prog (tabD laws_szWhole_len_tab) (tabM laws_szWhole_len_tab) := tabD_cons laws_szInt64S_len_Fok (tabD_nil _)
noncomputable def laws_szWhole_len_T (v3859 : Nat) (v3860 : Int) : Tree (Int) :=
  (.br (decide ((laws_szInt64S_len_v v3859 v3860) < (0 : Int))) (
   .leaf (-1 : Int)
  ) (
   .leaf (laws_szInt64S_len_v v3859 v3860)
  ))

noncomputable def laws_szWhole_len_g (v3859 : Nat) (v3860 : Int) : Option (Int) := (laws_szWhole_len_T v3859 v3860).run
def laws_szWhole_len_enc (v3857 : Int) (v3858 : Int) (v3859 : Nat) (v3860 : Int) (y : Int) : Rs := (.int .i64 y, [])
theorem laws_szWhole_len_den (v3857 : Int) (v3858 : Int) (v3859 : Nat) (v3860 : Int) : (den TT (tabD laws_szWhole_len_tab) (tabM laws_szWhole_len_tab) (laws_szWhole_len_LO v3857 v3858 v3859 v3860) (codeOf Try.f12) ([.agg [.int .i64 v3857, .int .i64 v3858, .hslc (BR.root 0) v3859], .int .i64 v3860] ++ List.replicate (Try.f12.ntmps - ([.agg [.int .i64 v3857, .int .i64 v3858, .hslc (BR.root 0) v3859], .int .i64 v3860] : List DV).length) .undef) []).bind (retD TT Try.f12.results.toList 0) = (laws_szWhole_len_T v3859 v3860).bind fun y => .leaf (laws_szWhole_len_enc v3857 v3858 v3859 v3860 y) := by kernel_rfl
theorem laws_szWhole_len_fn (v3857 : Int) (v3858 : Int) (v3859 : Nat) (v3860 : Int) (F : Fr) (h0 : St F [] F.H0) (hA : DVs.Ok F [] [.agg [.int .i64 v3857, .int .i64 v3858, .hslc (BR.root 0) v3859], .int .i64 v3860]) {y : Int} (hy : laws_szWhole_len_g v3859 v3860 = some y) : ∃ F' H', Fwd 0 F F' [] (laws_szWhole_len_enc v3857 v3858 v3859 v3860 y).2 ∧ FnOk Try.prog 12 (DVs.av F [.agg [.int .i64 v3857, .int .i64 v3858, .hslc (BR.root 0) v3859], .int .i64 v3860]) F.H0 ((laws_szWhole_len_enc v3857 v3858 v3859 v3860 y).1.av F') H' ∧ St F' (laws_szWhole_len_enc v3857 v3858 v3859 v3860 y).2 H' ∧ (laws_szWhole_len_enc v3857 v3858 v3859 v3860 y).1.Ok F' (laws_szWhole_len_enc v3857 v3858 v3859 v3860 y).2 :=
  fn_fin tok laws_szWhole_len_hO mixed Try.func12 Try.call12 (by kernel_rfl) (LoopsOk_eq (l := []) (by kernel_rfl) trivial) (laws_szWhole_len_den v3857 v3858 v3859 v3860) hy h0 hA
def laws_szWhole_len_v (v3859 : Nat) (v3860 : Int) : Int :=
  if (decide ((laws_szInt64S_len_v v3859 v3860) < (0 : Int))) = true then (
   (-1 : Int)
  ) else (
   (laws_szInt64S_len_v v3859 v3860)
  )
theorem laws_szWhole_len_tot (v3859 : Nat) (v3860 : Int) : laws_szWhole_len_g v3859 v3860 = some (laws_szWhole_len_v v3859 v3860) := by
  unfold laws_szWhole_len_g laws_szWhole_len_T laws_szWhole_len_v
  simp only [Tree.run]
  repeat' (first | rfl | split)
noncomputable def laws_szWhole_len_F : DFn := fun args L =>
  match args with
  | [.agg [.int .i64 v3857, .int .i64 v3858, a1], .int .i64 v3860] =>
    optT (lenV L a1) fun v3859 =>
    .leaf (.int .i64 (laws_szWhole_len_v v3859 v3860), L)
  | _ => .fail
theorem laws_szWhole_len_Fok : COk Try.prog 12 laws_szWhole_len_F true := by
  intro F L H args r L' hs ha hr
  unfold laws_szWhole_len_F at hr
  split at hr
  · rename_i v3857 v3858 a1 v3860
    obtain ⟨v3859, hv3859, hr⟩ := optT_run hr
    have hy := laws_szWhole_len_tot v3859 v3860
    generalize laws_szWhole_len_v v3859 v3860 = y at hy hr
    simp only [Tree.run, Option.some.injEq, Prod.mk.injEq] at hr
    obtain ⟨rfl, rfl⟩ := hr
    exact call_ok0 hs (fun k => (([a1.av F] : List AV)[k]?).getD .top) [.agg [.int .i64 v3857, .int .i64 v3858, a1], .int .i64 v3860] [.agg [.int .i64 v3857, .int .i64 v3858, .hslc (BR.root 0) v3859], .int .i64 v3860] (fun F' h0 hi hρ => ⟨by simp [DVs.av, DV.av, BR.av, hρ], laws_szWhole_len_fn v3857 v3858 v3859 v3860 F' (st_nil hi) ⟨⟨trivial, trivial, hslc_ok hi (by rw [h0, hρ]; exact lenV_ok hs (DVs.okAt (DVs.okAt ha 0 rfl) 2 rfl) hv3859), trivial⟩, trivial, trivial⟩ hy⟩) rfl
  · cases hr
/-! laws.FnExactNullOver -/
noncomputable def laws_FnExactNullOver_len_LO (v3853 : Int) (v3854 : Int) (v3855 : Nat) (v3856 : Int) : LOr := fun id e L =>
  match id with
  | _ => .fail
noncomputable def laws_FnExactNullOver_len_tab : List (FuncId × DFn × Bool) := [(12, laws_szWhole_len_F, true)]
theorem laws_FnExactNullOver_len_hO : OrcOk Try.prog (tabD laws_FnExactNullOver_len_tab) (tabM laws_FnExactNullOver_len_tab) := tabD_cons laws_szWhole_len_Fok (tabD_nil _)
noncomputable def laws_FnExactNullOver_len_T (v3855 : Nat) : Tree (Bool) :=
  (.br (decide ((laws_szWhole_len_v v3855 (1048576 : Int)) < (0 : Int))) (
   .leaf true
  ) (
   .fail
  ))

noncomputable def laws_FnExactNullOver_len_g (v3855 : Nat) : Option (Bool) := (laws_FnExactNullOver_len_T v3855).run
def laws_FnExactNullOver_len_enc (v3853 : Int) (v3854 : Int) (v3855 : Nat) (v3856 : Int) (y : Bool) : Rs := (.bool y, [])
theorem laws_FnExactNullOver_len_den (v3853 : Int) (v3854 : Int) (v3855 : Nat) (v3856 : Int) : (den TT (tabD laws_FnExactNullOver_len_tab) (tabM laws_FnExactNullOver_len_tab) (laws_FnExactNullOver_len_LO v3853 v3854 v3855 v3856) (codeOf Try.f6) ([.agg [.int .i64 v3853, .int .i64 v3854, .hslc (BR.root 0) v3855], .int .i64 v3856] ++ List.replicate (Try.f6.ntmps - ([.agg [.int .i64 v3853, .int .i64 v3854, .hslc (BR.root 0) v3855], .int .i64 v3856] : List DV).length) .undef) []).bind (retD TT Try.f6.results.toList 0) = (laws_FnExactNullOver_len_T v3855).bind fun y => .leaf (laws_FnExactNullOver_len_enc v3853 v3854 v3855 v3856 y) := by kernel_rfl
theorem laws_FnExactNullOver_len_fn (v3853 : Int) (v3854 : Int) (v3855 : Nat) (v3856 : Int) (F : Fr) (h0 : St F [] F.H0) (hA : DVs.Ok F [] [.agg [.int .i64 v3853, .int .i64 v3854, .hslc (BR.root 0) v3855], .int .i64 v3856]) {y : Bool} (hy : laws_FnExactNullOver_len_g v3855 = some y) : ∃ F' H', Fwd 0 F F' [] (laws_FnExactNullOver_len_enc v3853 v3854 v3855 v3856 y).2 ∧ FnOk Try.prog 6 (DVs.av F [.agg [.int .i64 v3853, .int .i64 v3854, .hslc (BR.root 0) v3855], .int .i64 v3856]) F.H0 ((laws_FnExactNullOver_len_enc v3853 v3854 v3855 v3856 y).1.av F') H' ∧ St F' (laws_FnExactNullOver_len_enc v3853 v3854 v3855 v3856 y).2 H' ∧ (laws_FnExactNullOver_len_enc v3853 v3854 v3855 v3856 y).1.Ok F' (laws_FnExactNullOver_len_enc v3853 v3854 v3855 v3856 y).2 :=
  fn_fin tok laws_FnExactNullOver_len_hO mixed Try.func6 Try.call6 (by kernel_rfl) (LoopsOk_eq (l := []) (by kernel_rfl) trivial) (laws_FnExactNullOver_len_den v3853 v3854 v3855 v3856) hy h0 hA
noncomputable def laws_FnExactNullOver_len_F : DFn := fun args L =>
  match args with
  | [.agg [.int .i64 v3853, .int .i64 v3854, a1], .int .i64 v3856] =>
    optT (lenV L a1) fun v3855 =>
    .call (laws_FnExactNullOver_len_g v3855) fun y => .leaf (.bool y, L)
  | _ => .fail
theorem laws_FnExactNullOver_len_Fok : COk Try.prog 6 laws_FnExactNullOver_len_F true := by
  intro F L H args r L' hs ha hr
  unfold laws_FnExactNullOver_len_F at hr
  split at hr
  · rename_i v3853 v3854 a1 v3856
    obtain ⟨v3855, hv3855, hr⟩ := optT_run hr
    simp only [Tree.run] at hr
    obtain ⟨y, hy, hr⟩ := Option.bind_eq_some_iff.1 hr
    simp only [Tree.run, Option.some.injEq, Prod.mk.injEq] at hr
    obtain ⟨rfl, rfl⟩ := hr
    exact call_ok0 hs (fun k => (([a1.av F] : List AV)[k]?).getD .top) [.agg [.int .i64 v3853, .int .i64 v3854, a1], .int .i64 v3856] [.agg [.int .i64 v3853, .int .i64 v3854, .hslc (BR.root 0) v3855], .int .i64 v3856] (fun F' h0 hi hρ => ⟨by simp [DVs.av, DV.av, BR.av, hρ], laws_FnExactNullOver_len_fn v3853 v3854 v3855 v3856 F' (st_nil hi) ⟨⟨trivial, trivial, hslc_ok hi (by rw [h0, hρ]; exact lenV_ok hs (DVs.okAt (DVs.okAt ha 0 rfl) 2 rfl) hv3855), trivial⟩, trivial, trivial⟩ hy⟩) rfl
  · cases hr
end Go.Proofs.Ytimlecagkbbnpaa.AM
