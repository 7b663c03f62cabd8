/- Functions: what they come to. -/
import Derived.Test.YthdmkdkbfhoahaaBase
set_option maxRecDepth 100000
set_option maxHeartbeats 4000000
set_option linter.unusedSimpArgs false
set_option linter.unusedVariables false
namespace Go.Proofs.Ythdmkdkbfhoahaa.AM
open Go.Proofs
/-! spec.l07Long -/
noncomputable def spec_l07Long_LO (v4 : ByteArray) : LOr := fun id e L =>
  match id with
  | _ => .fail
noncomputable def spec_l07Long_tab : List (FuncId × DFn × Bool) := []
theorem spec_l07Long_hO : OrcOk Try.prog (tabD spec_l07Long_tab) (tabM spec_l07Long_tab) := tabD_nil _
noncomputable def spec_l07Long_T (v4 : ByteArray) : Tree (Int) :=
  (.br (decide (((v4.size : Nat) : Int) < (5 : Int))) (
   .leaf (0 : Int)
  ) (
   (.grd (inb (4 : Int) v4.size) <|
   (.br (decide (((v4.size : Nat) : Int) < IntKind.i64.wrap ((IntKind.i64.wrap ((5 : Int) + (IntKind.i64.wrap (bt v4 (4 : Int))))) + (2 : Int)))) (
    .leaf (0 : Int)
   ) (
    (.grd (inb (IntKind.i64.wrap ((5 : Int) + (IntKind.i64.wrap (bt v4 (4 : Int))))) v4.size) <|
    (.grd (inb (IntKind.i64.wrap ((IntKind.i64.wrap ((5 : Int) + (IntKind.i64.wrap (bt v4 (4 : Int))))) + (1 : Int))) v4.size) <|
    (.br (decide (((v4.size : Nat) : Int) < IntKind.i64.wrap ((IntKind.i64.wrap ((IntKind.i64.wrap ((5 : Int) + (IntKind.i64.wrap (bt v4 (4 : Int))))) + (4 : Int))) + (IntKind.i64.wrap ((IntKind.i64.wrap ((4 : Int) * (IntKind.i64.wrap (bt v4 (IntKind.i64.wrap ((5 : Int) + (IntKind.i64.wrap (bt v4 (4 : Int))))))))) * (IntKind.i64.wrap (bt v4 (IntKind.i64.wrap ((IntKind.i64.wrap ((5 : Int) + (IntKind.i64.wrap (bt v4 (4 : Int))))) + (1 : Int)))))))))) (
     .leaf (0 : Int)
    ) (
     .leaf (IntKind.i64.wrap ((IntKind.i64.wrap ((IntKind.i64.wrap ((5 : Int) + (IntKind.i64.wrap (bt v4 (4 : Int))))) + (4 : Int))) + (IntKind.i64.wrap ((IntKind.i64.wrap ((4 : Int) * (IntKind.i64.wrap (bt v4 (IntKind.i64.wrap ((5 : Int) + (IntKind.i64.wrap (bt v4 (4 : Int))))))))) * (IntKind.i64.wrap (bt v4 (IntKind.i64.wrap ((IntKind.i64.wrap ((5 : Int) + (IntKind.i64.wrap (bt v4 (4 : Int))))) + (1 : Int)))))))))
    ))))
   )))
  ))

noncomputable def spec_l07Long_g (v4 : ByteArray) : Option (Int) := (spec_l07Long_T v4).run
def spec_l07Long_enc (v4 : ByteArray) (y : Int) : Rs := (.int .i64 y, [])
theorem spec_l07Long_den (v4 : ByteArray) : (den TT (tabD spec_l07Long_tab) (tabM spec_l07Long_tab) (spec_l07Long_LO v4) (codeOf Try.f49) ([.str v4] ++ List.replicate (Try.f49.ntmps - ([.str v4] : List DV).length) .undef) []).bind (retD TT Try.f49.results.toList 0) = (spec_l07Long_T v4).bind fun y => .leaf (spec_l07Long_enc v4 y) := by kernel_rfl
theorem spec_l07Long_fn (v4 : ByteArray) (F : Fr) (h0 : St F [] F.H0) (hA : DVs.Ok F [] [.str v4]) {y : Int} (hy : spec_l07Long_g v4 = some y) : ∃ F' H', Fwd 0 F F' [] (spec_l07Long_enc v4 y).2 ∧ FnOk Try.prog 49 (DVs.av F [.str v4]) F.H0 ((spec_l07Long_enc v4 y).1.av F') H' ∧ St F' (spec_l07Long_enc v4 y).2 H' ∧ (spec_l07Long_enc v4 y).1.Ok F' (spec_l07Long_enc v4 y).2 :=
  fn_fin tok spec_l07Long_hO mixed Try.func49 Try.call49 (by kernel_rfl) (LoopsOk_eq (l := []) (by kernel_rfl) trivial) (spec_l07Long_den v4) hy h0 hA
noncomputable def spec_l07Long_F : DFn := fun args L =>
  match args with
  | [.str v4] =>
    .call (spec_l07Long_g v4) fun y => .leaf (.int .i64 y, L)
  | _ => .fail
theorem spec_l07Long_Fok : COk Try.prog 49 spec_l07Long_F true := by
  intro F L H args r L' hs ha hr
  unfold spec_l07Long_F at hr
  split at hr
  · rename_i v4
    simp only [Tree.run] at hr
    obtain ⟨y, hy, hr⟩ := Option.bind_eq_some_iff.1 hr
    simp only [Tree.run, Option.some.injEq, Prod.mk.injEq] at hr
    obtain ⟨rfl, rfl⟩ := hr
    exact call_ok0 hs (fun k => (([] : List AV)[k]?).getD .top) [.str v4] [.str v4] (fun F' h0 hi hρ => ⟨by simp [DVs.av, DV.av, BR.av, hρ], spec_l07Long_fn v4 F' (st_nil hi) ⟨trivial, trivial⟩ hy⟩) rfl
  · cases hr
/-! spec.l02Blank -/
noncomputable def spec_l02Blank_LO (v8 : Int) (v9 : Int) : LOr := fun id e L =>
  match id with
  | _ => .fail
noncomputable def spec_l02Blank_tab : List (FuncId × DFn × Bool) := []
theorem spec_l02Blank_hO : OrcOk Try.prog (tabD spec_l02Blank_tab) (tabM spec_l02Blank_tab) := tabD_nil _
noncomputable def spec_l02Blank_T (v8 : Int) (v9 : Int) : Tree (Int × Int) :=
  .leaf (v8, v9)

noncomputable def spec_l02Blank_g (v8 : Int) (v9 : Int) : Option (Int × Int) := (spec_l02Blank_T v8 v9).run
def spec_l02Blank_enc (v8 : Int) (v9 : Int) (y : Int × Int) : Rs := (.agg [.int .i64 y.1, .int .i64 y.2, .own 0 0 ((([] : List Nat)).length)], [.row (.f32 ([] : List Nat)) 0])
theorem spec_l02Blank_den (v8 : Int) (v9 : Int) : (den TT (tabD spec_l02Blank_tab) (tabM spec_l02Blank_tab) (spec_l02Blank_LO v8 v9) (codeOf Try.f69) ([.int .i64 v8, .int .i64 v9] ++ List.replicate (Try.f69.ntmps - ([.int .i64 v8, .int .i64 v9] : List DV).length) .undef) []).bind (retD TT Try.f69.results.toList 0) = (spec_l02Blank_T v8 v9).bind fun y => .leaf (spec_l02Blank_enc v8 v9 y) := by kernel_rfl
theorem spec_l02Blank_fn (v8 : Int) (v9 : Int) (F : Fr) (h0 : St F [] F.H0) (hA : DVs.Ok F [] [.int .i64 v8, .int .i64 v9]) {y : Int × Int} (hy : spec_l02Blank_g v8 v9 = some y) : ∃ F' H', Fwd 0 F F' [] (spec_l02Blank_enc v8 v9 y).2 ∧ FnOk Try.prog 69 (DVs.av F [.int .i64 v8, .int .i64 v9]) F.H0 ((spec_l02Blank_enc v8 v9 y).1.av F') H' ∧ St F' (spec_l02Blank_enc v8 v9 y).2 H' ∧ (spec_l02Blank_enc v8 v9 y).1.Ok F' (spec_l02Blank_enc v8 v9 y).2 :=
  fn_fin tok spec_l02Blank_hO mixed Try.func69 Try.call69 (by kernel_rfl) (LoopsOk_eq (l := []) (by kernel_rfl) trivial) (spec_l02Blank_den v8 v9) hy h0 hA
def spec_l02Blank_v (v8 : Int) (v9 : Int) : Int × Int :=
  (v8, v9)
theorem spec_l02Blank_tot (v8 : Int) (v9 : Int) : spec_l02Blank_g v8 v9 = some (spec_l02Blank_v v8 v9) := by
  unfold spec_l02Blank_g spec_l02Blank_T spec_l02Blank_v
  simp only [Tree.run]
  repeat' (first | rfl | split)
noncomputable def spec_l02Blank_F : DFn := fun args L =>
  match args with
  | [.int .i64 v8, .int .i64 v9] =>
    .leaf (.agg [.int .i64 ((spec_l02Blank_v v8 v9).1), .int .i64 ((spec_l02Blank_v v8 v9).2), .own (L.length + 0) 0 ((([] : List Nat)).length)], L ++ [.row (.f32 ([] : List Nat)) 0])
  | _ => .fail
theorem spec_l02Blank_Fok : COk Try.prog 69 spec_l02Blank_F true := by
  intro F L H args r L' hs ha hr
  unfold spec_l02Blank_F at hr
  split at hr
  · rename_i v8 v9
    have hy := spec_l02Blank_tot v8 v9
    generalize spec_l02Blank_v v8 v9 = y at hy hr
    simp only [Tree.run, Option.some.injEq, Prod.mk.injEq] at hr
    obtain ⟨rfl, rfl⟩ := hr
    exact call_ok1 hs (fun k => (([] : List AV)[k]?).getD .top) [.int .i64 v8, .int .i64 v9] [.int .i64 v8, .int .i64 v9] (fun F' h0 hi hρ => ⟨by simp [DVs.av, DV.av, BR.av, hρ], spec_l02Blank_fn v8 v9 F' (st_nil hi) ⟨trivial, trivial, trivial⟩ hy⟩) rfl rfl
  · cases hr
/-! spec.l01From -/
noncomputable def spec_l01From_LO (v12 : Int) : LOr := fun id e L =>
  match id with
  | _ => .fail
noncomputable def spec_l01From_tab : List (FuncId × DFn × Bool) := [(71, From32_F, true)]
theorem spec_l01From_hO : OrcOk Try.prog (tabD spec_l01From_tab) (tabM spec_l01From_tab) := tabD_cons From32_Fok (tabD_nil _)
noncomputable def spec_l01From_T (v12 : Int) : Tree (Nat) :=
  .leaf (canon .f32 (Int.toNat (IntKind.u32.wrap (v12))))

noncomputable def spec_l01From_g (v12 : Int) : Option (Nat) := (spec_l01From_T v12).run
def spec_l01From_enc (v12 : Int) (y : Nat) : Rs := (.flt .f32 y, [])
theorem spec_l01From_den (v12 : Int) : (den TT (tabD spec_l01From_tab) (tabM spec_l01From_tab) (spec_l01From_LO v12) (codeOf Try.f70) ([.int .i64 v12] ++ List.replicate (Try.f70.ntmps - ([.int .i64 v12] : List DV).length) .undef) []).bind (retD TT Try.f70.results.toList 0) = (spec_l01From_T v12).bind fun y => .leaf (spec_l01From_enc v12 y) := by kernel_rfl
theorem spec_l01From_fn (v12 : Int) (F : Fr) (h0 : St F [] F.H0) (hA : DVs.Ok F [] [.int .i64 v12]) {y : Nat} (hy : spec_l01From_g v12 = some y) : ∃ F' H', Fwd 0 F F' [] (spec_l01From_enc v12 y).2 ∧ FnOk Try.prog 70 (DVs.av F [.int .i64 v12]) F.H0 ((spec_l01From_enc v12 y).1.av F') H' ∧ St F' (spec_l01From_enc v12 y).2 H' ∧ (spec_l01From_enc v12 y).1.Ok F' (spec_l01From_enc v12 y).2 :=
  fn_fin tok spec_l01From_hO mixed Try.func70 Try.call70 (by kernel_rfl) (LoopsOk_eq (l := []) (by kernel_rfl) trivial) (spec_l01From_den v12) hy h0 hA
def spec_l01From_v (v12 : Int) : Nat :=
  canon .f32 (Int.toNat (IntKind.u32.wrap (v12)))
theorem spec_l01From_tot (v12 : Int) : spec_l01From_g v12 = some (spec_l01From_v v12) := by
  unfold spec_l01From_g spec_l01From_T spec_l01From_v
  simp only [Tree.run]
  repeat' (first | rfl | split)
noncomputable def spec_l01From_F : DFn := fun args L =>
  match args with
  | [.int .i64 v12] =>
    .leaf (.flt .f32 (spec_l01From_v v12), L)
  | _ => .fail
theorem spec_l01From_Fok : COk Try.prog 70 spec_l01From_F true := by
  intro F L H args r L' hs ha hr
  unfold spec_l01From_F at hr
  split at hr
  · rename_i v12
    have hy := spec_l01From_tot v12
    generalize spec_l01From_v v12 = y at hy hr
    simp only [Tree.run, Option.some.injEq, Prod.mk.injEq] at hr
    obtain ⟨rfl, rfl⟩ := hr
    exact call_ok0 hs (fun k => (([] : List AV)[k]?).getD .top) [.int .i64 v12] [.int .i64 v12] (fun F' h0 hi hρ => ⟨by simp [DVs.av, DV.av, BR.av, hρ], spec_l01From_fn v12 F' (st_nil hi) ⟨trivial, trivial⟩ hy⟩) rfl
  · cases hr
/-! spec.l07Name -/
noncomputable def spec_l07Name_l0_T (v24 : ByteArray) (s : Int) : Tree ((Int) ⊕ ((Unit) ⊕ (Unit))) :=
  (.br (decide (s < ((v24.size : Nat) : Int))) (
   (.grd (inb s v24.size) <|
   (.br (decide (bt v24 s < (97 : Int))) (
    .leaf (.inr (.inl ()))
   ) (
    (.grd (inb s v24.size) <|
    (.br (decide ((122 : Int) < bt v24 s)) (
     .leaf (.inr (.inl ()))
    ) (
     .leaf (.inl (IntKind.i64.wrap (s + (1 : Int))))
    )))
   )))
  ) (
   .leaf (.inr (.inr ()))
  ))

noncomputable def spec_l07Name_l0_g (v24 : ByteArray) (s0 : Int) : Option ((Unit) ⊕ (Unit)) := whileM (fun s => (spec_l07Name_l0_T v24 s).run) s0
def spec_l07Name_l0_E (v24 : ByteArray) (s : Int) : Sd := ([.str v24,tp,tp,.int .i64 s,tp,tp,tp,tp,tp,tp,tp,tp,tp,tp,tp,tp,tp,tp,tp,tp,tp,tp,tp,tp,tp,tp,tp,tp], [])
def spec_l07Name_l0_X (v24 : ByteArray) (x : (Unit) ⊕ (Unit)) : Out := (match x with | .inl x => (.ret, [tp,tp,.lit false,tp,tp,tp,tp,tp,tp,tp,tp,tp,tp,tp,tp,tp,tp,tp,tp,tp,tp,tp,tp,tp,tp,tp,tp,tp], []) | .inr x => (.normal, [.str v24,tp,tp,tp,tp,tp,tp,tp,tp,tp,tp,tp,tp,tp,tp,tp,tp,tp,tp,tp,tp,tp,tp,tp,tp,tp,tp,tp], []))
def spec_l07Name_l0_kill : List Nat := KL true [0,1,2,1,24]
def spec_l07Name_l0_nx : Exit → List Nat
  | .exit 0 => KL true [0,1,27]
  | .ret => KL true [2,1,25]
  | _ => []
noncomputable def spec_l07Name_LO (v24 : ByteArray) : LOr := fun id e L =>
  match id with
  | 0 => .need (normA 0 spec_l07Name_l0_kill e L = some (spec_l07Name_l0_E v24 (gI (vAt e 3)))) (.call (spec_l07Name_l0_g v24 (gI (vAt e 3))) fun x => .sum x (fun b0 => .leaf (spec_l07Name_l0_X v24 (.inl b0))) (fun c0 => .leaf (spec_l07Name_l0_X v24 (.inr c0))))
  | _ => .fail
noncomputable def spec_l07Name_tab : List (FuncId × DFn × Bool) := []
theorem spec_l07Name_hO : OrcOk Try.prog (tabD spec_l07Name_tab) (tabM spec_l07Name_tab) := tabD_nil _
theorem spec_l07Name_l0_be (v24 : ByteArray) (s : Int) : bodyT TT (tabD spec_l07Name_tab) (tabM spec_l07Name_tab) (spec_l07Name_LO v24) 0 spec_l07Name_l0_kill spec_l07Name_l0_nx (bodyOf Try.f60 0) 0 (spec_l07Name_l0_E v24 s) = (spec_l07Name_l0_T v24 s).bind fun y => .leaf (outS (spec_l07Name_l0_E v24) (spec_l07Name_l0_X v24) y) := by kernel_rfl
theorem spec_l07Name_l0_ok (v24 : ByteArray) : LSound Try.prog 0 (spec_l07Name_LO v24) 0 (bodyOf Try.f60 0) := by
  intro e L out h
  exact lo_ok (E := spec_l07Name_l0_E v24) (gT := spec_l07Name_l0_T v24) (X := spec_l07Name_l0_X v24) (s0 := (gI (vAt e 3))) tok spec_l07Name_hO mixed (LoopsOk_eq (l := []) (by kernel_rfl) trivial) (spec_l07Name_l0_be v24) rfl (by intro x; (cases x with | inl b => rfl | inr x => exact rfl)) h
noncomputable def spec_l07Name_T (v24 : ByteArray) : Tree (Bool) :=
  (.need (some (spec_l07Name_l0_E v24 (0 : Int)) = some (spec_l07Name_l0_E v24 (0 : Int))) <|
  (.call (spec_l07Name_l0_g v24 (0 : Int)) fun v28 =>
  (.sum v28 (fun v29 =>
   .leaf false
  ) (fun v30 =>
   (.br (decide ((1 : Int) ≤ ((v24.size : Nat) : Int))) (
    .leaf (decide (((v24.size : Nat) : Int) ≤ (8 : Int)))
   ) (
    .leaf false
   ))
  ))))

noncomputable def spec_l07Name_g (v24 : ByteArray) : Option (Bool) := (spec_l07Name_T v24).run
def spec_l07Name_enc (v24 : ByteArray) (y : Bool) : Rs := (.bool y, [])
theorem spec_l07Name_den (v24 : ByteArray) : (den TT (tabD spec_l07Name_tab) (tabM spec_l07Name_tab) (spec_l07Name_LO v24) (codeOf Try.f60) ([.str v24] ++ List.replicate (Try.f60.ntmps - ([.str v24] : List DV).length) .undef) []).bind (retD TT Try.f60.results.toList 0) = (spec_l07Name_T v24).bind fun y => .leaf (spec_l07Name_enc v24 y) := by kernel_rfl
theorem spec_l07Name_fn (v24 : ByteArray) (F : Fr) (h0 : St F [] F.H0) (hA : DVs.Ok F [] [.str v24]) {y : Bool} (hy : spec_l07Name_g v24 = some y) : ∃ F' H', Fwd 0 F F' [] (spec_l07Name_enc v24 y).2 ∧ FnOk Try.prog 60 (DVs.av F [.str v24]) F.H0 ((spec_l07Name_enc v24 y).1.av F') H' ∧ St F' (spec_l07Name_enc v24 y).2 H' ∧ (spec_l07Name_enc v24 y).1.Ok F' (spec_l07Name_enc v24 y).2 :=
  fn_fin tok spec_l07Name_hO mixed Try.func60 Try.call60 (by kernel_rfl) (LoopsOk_eq (l := [(0, bodyOf Try.f60 0)]) (by kernel_rfl) ⟨spec_l07Name_l0_ok v24, trivial⟩) (spec_l07Name_den v24) hy h0 hA
noncomputable def spec_l07Name_F : DFn := fun args L =>
  match args with
  | [.str v24] =>
    .call (spec_l07Name_g v24) fun y => .leaf (.bool y, L)
  | _ => .fail
theorem spec_l07Name_Fok : COk Try.prog 60 spec_l07Name_F true := by
  intro F L H args r L' hs ha hr
  unfold spec_l07Name_F at hr
  split at hr
  · rename_i v24
    simp only [Tree.run] at hr
    obtain ⟨y, hy, hr⟩ := Option.bind_eq_some_iff.1 hr
    simp only [Tree.run, Option.some.injEq, Prod.mk.injEq] at hr
    obtain ⟨rfl, rfl⟩ := hr
    exact call_ok0 hs (fun k => (([] : List AV)[k]?).getD .top) [.str v24] [.str v24] (fun F' h0 hi hρ => ⟨by simp [DVs.av, DV.av, BR.av, hρ], spec_l07Name_fn v24 F' (st_nil hi) ⟨trivial, trivial⟩ hy⟩) rfl
  · cases hr
/-! spec.l00In -/
noncomputable def spec_l00In_LO (v37 : Int) (v38 : Int) (v39 : Int) : LOr := fun id e L =>
  match id with
  | _ => .fail
noncomputable def spec_l00In_tab : List (FuncId × DFn × Bool) := []
theorem spec_l00In_hO : OrcOk Try.prog (tabD spec_l00In_tab) (tabM spec_l00In_tab) := tabD_nil _
noncomputable def spec_l00In_T (v37 : Int) (v38 : Int) (v39 : Int) : Tree (Bool) :=
  (.br (decide (v38 ≤ v37)) (
   .leaf (decide (v37 ≤ v39))
  ) (
   .leaf false
  ))

noncomputable def spec_l00In_g (v37 : Int) (v38 : Int) (v39 : Int) : Option (Bool) := (spec_l00In_T v37 v38 v39).run
def spec_l00In_enc (v37 : Int) (v38 : Int) (v39 : Int) (y : Bool) : Rs := (.bool y, [])
theorem spec_l00In_den (v37 : Int) (v38 : Int) (v39 : Int) : (den TT (tabD spec_l00In_tab) (tabM spec_l00In_tab) (spec_l00In_LO v37 v38 v39) (codeOf Try.f92) ([.int .i64 v37, .int .i64 v38, .int .i64 v39] ++ List.replicate (Try.f92.ntmps - ([.int .i64 v37, .int .i64 v38, .int .i64 v39] : List DV).length) .undef) []).bind (retD TT Try.f92.results.toList 0) = (spec_l00In_T v37 v38 v39).bind fun y => .leaf (spec_l00In_enc v37 v38 v39 y) := by kernel_rfl
theorem spec_l00In_fn (v37 : Int) (v38 : Int) (v39 : Int) (F : Fr) (h0 : St F [] F.H0) (hA : DVs.Ok F [] [.int .i64 v37, .int .i64 v38, .int .i64 v39]) {y : Bool} (hy : spec_l00In_g v37 v38 v39 = some y) : ∃ F' H', Fwd 0 F F' [] (spec_l00In_enc v37 v38 v39 y).2 ∧ FnOk Try.prog 92 (DVs.av F [.int .i64 v37, .int .i64 v38, .int .i64 v39]) F.H0 ((spec_l00In_enc v37 v38 v39 y).1.av F') H' ∧ St F' (spec_l00In_enc v37 v38 v39 y).2 H' ∧ (spec_l00In_enc v37 v38 v39 y).1.Ok F' (spec_l00In_enc v37 v38 v39 y).2 :=
  fn_fin tok spec_l00In_hO mixed Try.func92 Try.call92 (by kernel_rfl) (LoopsOk_eq (l := []) (by kernel_rfl) trivial) (spec_l00In_den v37 v38 v39) hy h0 hA
def spec_l00In_v (v37 : Int) (v38 : Int) (v39 : Int) : Bool :=
  if (decide (v38 ≤ v37)) = true then (
   decide (v37 ≤ v39)
  ) else (
   false
  )
theorem spec_l00In_tot (v37 : Int) (v38 : Int) (v39 : Int) : spec_l00In_g v37 v38 v39 = some (spec_l00In_v v37 v38 v39) := by
  unfold spec_l00In_g spec_l00In_T spec_l00In_v
  simp only [Tree.run]
  repeat' (first | rfl | split)
noncomputable def spec_l00In_F : DFn := fun args L =>
  match args with
  | [.int .i64 v37, .int .i64 v38, .int .i64 v39] =>
    .leaf (.bool (spec_l00In_v v37 v38 v39), L)
  | _ => .fail
theorem spec_l00In_Fok : COk Try.prog 92 spec_l00In_F true := by
  intro F L H args r L' hs ha hr
  unfold spec_l00In_F at hr
  split at hr
  · rename_i v37 v38 v39
    have hy := spec_l00In_tot v37 v38 v39
    generalize spec_l00In_v v37 v38 v39 = y at hy hr
    simp only [Tree.run, Option.some.injEq, Prod.mk.injEq] at hr
    obtain ⟨rfl, rfl⟩ := hr
    exact call_ok0 hs (fun k => (([] : List AV)[k]?).getD .top) [.int .i64 v37, .int .i64 v38, .int .i64 v39] [.int .i64 v37, .int .i64 v38, .int .i64 v39] (fun F' h0 hi hρ => ⟨by simp [DVs.av, DV.av, BR.av, hρ], spec_l00In_fn v37 v38 v39 F' (st_nil hi) ⟨trivial, trivial, trivial, trivial⟩ hy⟩) rfl
  · cases hr
/-! spec.l02Sides -/
noncomputable def spec_l02Sides_LO (v35 : Int) (v36 : Int) : LOr := fun id e L =>
  match id with
  | _ => .fail
noncomputable def spec_l02Sides_tab : List (FuncId × DFn × Bool) := [(92, spec_l00In_F, true)]
theorem spec_l02Sides_hO : OrcOk Try.prog (tabD spec_l02Sides_tab) (tabM spec_l02Sides_tab) := tabD_cons spec_l00In_Fok (tabD_nil _)
noncomputable def spec_l02Sides_T (v35 : Int) (v36 : Int) : Tree (Bool) :=
  (.br (spec_l00In_v v35 (1 : Int) (12 : Int)) (
   .leaf (spec_l00In_v v36 (1 : Int) (12 : Int))
  ) (
   .leaf false
  ))

noncomputable def spec_l02Sides_g (v35 : Int) (v36 : Int) : Option (Bool) := (spec_l02Sides_T v35 v36).run
def spec_l02Sides_enc (v35 : Int) (v36 : Int) (y : Bool) : Rs := (.bool y, [])
theorem spec_l02Sides_den (v35 : Int) (v36 : Int) : (den TT (tabD spec_l02Sides_tab) (tabM spec_l02Sides_tab) (spec_l02Sides_LO v35 v36) (codeOf Try.f82) ([.int .i64 v35, .int .i64 v36] ++ List.replicate (Try.f82.ntmps - ([.int .i64 v35, .int .i64 v36] : List DV).length) .undef) []).bind (retD TT Try.f82.results.toList 0) = (spec_l02Sides_T v35 v36).bind fun y => .leaf (spec_l02Sides_enc v35 v36 y) := by kernel_rfl
theorem spec_l02Sides_fn (v35 : Int) (v36 : Int) (F : Fr) (h0 : St F [] F.H0) (hA : DVs.Ok F [] [.int .i64 v35, .int .i64 v36]) {y : Bool} (hy : spec_l02Sides_g v35 v36 = some y) : ∃ F' H', Fwd 0 F F' [] (spec_l02Sides_enc v35 v36 y).2 ∧ FnOk Try.prog 82 (DVs.av F [.int .i64 v35, .int .i64 v36]) F.H0 ((spec_l02Sides_enc v35 v36 y).1.av F') H' ∧ St F' (spec_l02Sides_enc v35 v36 y).2 H' ∧ (spec_l02Sides_enc v35 v36 y).1.Ok F' (spec_l02Sides_enc v35 v36 y).2 :=
  fn_fin tok spec_l02Sides_hO mixed Try.func82 Try.call82 (by kernel_rfl) (LoopsOk_eq (l := []) (by kernel_rfl) trivial) (spec_l02Sides_den v35 v36) hy h0 hA
def spec_l02Sides_v (v35 : Int) (v36 : Int) : Bool :=
  if (spec_l00In_v v35 (1 : Int) (12 : Int)) = true then (
   (spec_l00In_v v36 (1 : Int) (12 : Int))
  ) else (
   false
  )
theorem spec_l02Sides_tot (v35 : Int) (v36 : Int) : spec_l02Sides_g v35 v36 = some (spec_l02Sides_v v35 v36) := by
  unfold spec_l02Sides_g spec_l02Sides_T spec_l02Sides_v
  simp only [Tree.run]
  repeat' (first | rfl | split)
noncomputable def spec_l02Sides_F : DFn := fun args L =>
  match args with
  | [.int .i64 v35, .int .i64 v36] =>
    .leaf (.bool (spec_l02Sides_v v35 v36), L)
  | _ => .fail
theorem spec_l02Sides_Fok : COk Try.prog 82 spec_l02Sides_F true := by
  intro F L H args r L' hs ha hr
  unfold spec_l02Sides_F at hr
  split at hr
  · rename_i v35 v36
    have hy := spec_l02Sides_tot v35 v36
    generalize spec_l02Sides_v v35 v36 = y at hy hr
    simp only [Tree.run, Option.some.injEq, Prod.mk.injEq] at hr
    obtain ⟨rfl, rfl⟩ := hr
    exact call_ok0 hs (fun k => (([] : List AV)[k]?).getD .top) [.int .i64 v35, .int .i64 v36] [.int .i64 v35, .int .i64 v36] (fun F' h0 hi hρ => ⟨by simp [DVs.av, DV.av, BR.av, hρ], spec_l02Sides_fn v35 v36 F' (st_nil hi) ⟨trivial, trivial, trivial⟩ hy⟩) rfl
  · cases hr
/-! spec.l01Finite -/
noncomputable def spec_l01Finite_LO (v42 : Nat) : LOr := fun id e L =>
  match id with
  | _ => .fail
noncomputable def spec_l01Finite_tab : List (FuncId × DFn × Bool) := []
theorem spec_l01Finite_hO : OrcOk Try.prog (tabD spec_l01Finite_tab) (tabM spec_l01Finite_tab) := tabD_nil _
noncomputable def spec_l01Finite_T (v42 : Nat) : Tree (Bool) :=
  .leaf (feq .f32 (fsub .f32 v42 v42) (0 : Nat))

noncomputable def spec_l01Finite_g (v42 : Nat) : Option (Bool) := (spec_l01Finite_T v42).run
def spec_l01Finite_enc (v42 : Nat) (y : Bool) : Rs := (.bool y, [])
theorem spec_l01Finite_den (v42 : Nat) : (den TT (tabD spec_l01Finite_tab) (tabM spec_l01Finite_tab) (spec_l01Finite_LO v42) (codeOf Try.f93) ([.flt .f32 v42] ++ List.replicate (Try.f93.ntmps - ([.flt .f32 v42] : List DV).length) .undef) []).bind (retD TT Try.f93.results.toList 0) = (spec_l01Finite_T v42).bind fun y => .leaf (spec_l01Finite_enc v42 y) := by kernel_rfl
theorem spec_l01Finite_fn (v42 : Nat) (F : Fr) (h0 : St F [] F.H0) (hA : DVs.Ok F [] [.flt .f32 v42]) {y : Bool} (hy : spec_l01Finite_g v42 = some y) : ∃ F' H', Fwd 0 F F' [] (spec_l01Finite_enc v42 y).2 ∧ FnOk Try.prog 93 (DVs.av F [.flt .f32 v42]) F.H0 ((spec_l01Finite_enc v42 y).1.av F') H' ∧ St F' (spec_l01Finite_enc v42 y).2 H' ∧ (spec_l01Finite_enc v42 y).1.Ok F' (spec_l01Finite_enc v42 y).2 :=
  fn_fin tok spec_l01Finite_hO mixed Try.func93 Try.call93 (by kernel_rfl) (LoopsOk_eq (l := []) (by kernel_rfl) trivial) (spec_l01Finite_den v42) hy h0 hA
def spec_l01Finite_v (v42 : Nat) : Bool :=
  feq .f32 (fsub .f32 v42 v42) (0 : Nat)
theorem spec_l01Finite_tot (v42 : Nat) : spec_l01Finite_g v42 = some (spec_l01Finite_v v42) := by
  unfold spec_l01Finite_g spec_l01Finite_T spec_l01Finite_v
  simp only [Tree.run]
  repeat' (first | rfl | split)
noncomputable def spec_l01Finite_F : DFn := fun args L =>
  match args with
  | [.flt .f32 v42] =>
    .leaf (.bool (spec_l01Finite_v v42), L)
  | _ => .fail
theorem spec_l01Finite_Fok : COk Try.prog 93 spec_l01Finite_F true := by
  intro F L H args r L' hs ha hr
  unfold spec_l01Finite_F at hr
  split at hr
  · rename_i v42
    have hy := spec_l01Finite_tot v42
    generalize spec_l01Finite_v v42 = y at hy hr
    simp only [Tree.run, Option.some.injEq, Prod.mk.injEq] at hr
    obtain ⟨rfl, rfl⟩ := hr
    exact call_ok0 hs (fun k => (([] : List AV)[k]?).getD .top) [.flt .f32 v42] [.flt .f32 v42] (fun F' h0 hi hρ => ⟨by simp [DVs.av, DV.av, BR.av, hρ], spec_l01Finite_fn v42 F' (st_nil hi) ⟨trivial, trivial⟩ hy⟩) rfl
  · cases hr
/-! spec.l02Finite -/
noncomputable def spec_l02Finite_l0_T (v40 : List Nat) (s : Int) : Tree ((Int) ⊕ ((Unit) ⊕ (Unit))) :=
  (.br (decide (s < ((v40.length : Nat) : Int))) (
   (.grd (inb s v40.length) <|
   (.br (!(spec_l01Finite_v (nth v40 (Int.toNat s)))) (
    .leaf (.inr (.inl ()))
   ) (
    .leaf (.inl (IntKind.i64.wrap (s + (1 : Int))))
   )))
  ) (
   .leaf (.inr (.inr ()))
  ))

noncomputable def spec_l02Finite_l0_g (v40 : List Nat) (s0 : Int) : Option ((Unit) ⊕ (Unit)) := whileM (fun s => (spec_l02Finite_l0_T v40 s).run) s0
def spec_l02Finite_l0_E (v40 : List Nat) (s : Int) : Sd := ([.bslc (BR.root 0) (.f32 v40),tp,tp,.int .i64 s,tp,tp,tp,tp,tp,tp,tp,tp,tp,tp,tp,tp], [])
def spec_l02Finite_l0_X (v40 : List Nat) (x : (Unit) ⊕ (Unit)) : Out := (match x with | .inl x => (.ret, [tp,tp,.lit false,tp,tp,tp,tp,tp,tp,tp,tp,tp,tp,tp,tp,tp], []) | .inr x => (.normal, [tp,tp,tp,tp,tp,tp,tp,tp,tp,tp,tp,tp,tp,tp,tp,tp], []))
def spec_l02Finite_l0_kill : List Nat := KL true [0,1,2,1,12]
def spec_l02Finite_l0_nx : Exit → List Nat
  | .exit 0 => KL true [16]
  | .ret => KL true [2,1,13]
  | _ => []
noncomputable def spec_l02Finite_LO (v40 : List Nat) : LOr := fun id e L =>
  match id with
  | 0 => .need (normA 0 spec_l02Finite_l0_kill e L = some (spec_l02Finite_l0_E v40 (gI (vAt e 3)))) (.call (spec_l02Finite_l0_g v40 (gI (vAt e 3))) fun x => .sum x (fun b0 => .leaf (spec_l02Finite_l0_X v40 (.inl b0))) (fun c0 => .leaf (spec_l02Finite_l0_X v40 (.inr c0))))
  | _ => .fail
noncomputable def spec_l02Finite_tab : List (FuncId × DFn × Bool) := [(93, spec_l01Finite_F, true)]
theorem spec_l02Finite_hO : OrcOk Try.prog (tabD spec_l02Finite_tab) (tabM spec_l02Finite_tab) := tabD_cons spec_l01Finite_Fok (tabD_nil _)
theorem spec_l02Finite_l0_be (v40 : List Nat) (s : Int) : bodyT TT (tabD spec_l02Finite_tab) (tabM spec_l02Finite_tab) (spec_l02Finite_LO v40) 0 spec_l02Finite_l0_kill spec_l02Finite_l0_nx (bodyOf Try.f83 0) 0 (spec_l02Finite_l0_E v40 s) = (spec_l02Finite_l0_T v40 s).bind fun y => .leaf (outS (spec_l02Finite_l0_E v40) (spec_l02Finite_l0_X v40) y) := by kernel_rfl
theorem spec_l02Finite_l0_ok (v40 : List Nat) : LSound Try.prog 0 (spec_l02Finite_LO v40) 0 (bodyOf Try.f83 0) := by
  intro e L out h
  exact lo_ok (E := spec_l02Finite_l0_E v40) (gT := spec_l02Finite_l0_T v40) (X := spec_l02Finite_l0_X v40) (s0 := (gI (vAt e 3))) tok spec_l02Finite_hO mixed (LoopsOk_eq (l := []) (by kernel_rfl) trivial) (spec_l02Finite_l0_be v40) rfl (by intro x; (cases x with | inl b => rfl | inr x => exact rfl)) h
noncomputable def spec_l02Finite_T (v40 : List Nat) : Tree (Bool) :=
  (.need (some (spec_l02Finite_l0_E v40 (0 : Int)) = some (spec_l02Finite_l0_E v40 (0 : Int))) <|
  (.call (spec_l02Finite_l0_g v40 (0 : Int)) fun v45 =>
  (.sum v45 (fun v46 =>
   .leaf false
  ) (fun v47 =>
   .leaf true
  ))))

noncomputable def spec_l02Finite_g (v40 : List Nat) : Option (Bool) := (spec_l02Finite_T v40).run
def spec_l02Finite_enc (v40 : List Nat) (y : Bool) : Rs := (.bool y, [])
theorem spec_l02Finite_den (v40 : List Nat) : (den TT (tabD spec_l02Finite_tab) (tabM spec_l02Finite_tab) (spec_l02Finite_LO v40) (codeOf Try.f83) ([.bslc (BR.root 0) (.f32 v40)] ++ List.replicate (Try.f83.ntmps - ([.bslc (BR.root 0) (.f32 v40)] : List DV).length) .undef) []).bind (retD TT Try.f83.results.toList 0) = (spec_l02Finite_T v40).bind fun y => .leaf (spec_l02Finite_enc v40 y) := by kernel_rfl
theorem spec_l02Finite_fn (v40 : List Nat) (F : Fr) (h0 : St F [] F.H0) (hA : DVs.Ok F [] [.bslc (BR.root 0) (.f32 v40)]) {y : Bool} (hy : spec_l02Finite_g v40 = some y) : ∃ F' H', Fwd 0 F F' [] (spec_l02Finite_enc v40 y).2 ∧ FnOk Try.prog 83 (DVs.av F [.bslc (BR.root 0) (.f32 v40)]) F.H0 ((spec_l02Finite_enc v40 y).1.av F') H' ∧ St F' (spec_l02Finite_enc v40 y).2 H' ∧ (spec_l02Finite_enc v40 y).1.Ok F' (spec_l02Finite_enc v40 y).2 :=
  fn_fin tok spec_l02Finite_hO mixed Try.func83 Try.call83 (by kernel_rfl) (LoopsOk_eq (l := [(0, bodyOf Try.f83 0)]) (by kernel_rfl) ⟨spec_l02Finite_l0_ok v40, trivial⟩) (spec_l02Finite_den v40) hy h0 hA
noncomputable def spec_l02Finite_F : DFn := fun args L =>
  match args with
  | [a1] =>
    optT (rowF32 L a1) fun v40 =>
    .call (spec_l02Finite_g v40) fun y => .leaf (.bool y, L)
  | _ => .fail
theorem spec_l02Finite_Fok : COk Try.prog 83 spec_l02Finite_F true := by
  intro F L H args r L' hs ha hr
  unfold spec_l02Finite_F at hr
  split at hr
  · rename_i a1
    obtain ⟨v40, hv40, hr⟩ := optT_run hr
    simp only [Tree.run] at hr
    obtain ⟨y, hy, hr⟩ := Option.bind_eq_some_iff.1 hr
    simp only [Tree.run, Option.some.injEq, Prod.mk.injEq] at hr
    obtain ⟨rfl, rfl⟩ := hr
    exact call_ok0 hs (fun k => (([a1.av F] : List AV)[k]?).getD .top) [a1] [.bslc (BR.root 0) (.f32 v40)] (fun F' h0 hi hρ => ⟨by simp [DVs.av, DV.av, BR.av, hρ], spec_l02Finite_fn v40 F' (st_nil hi) ⟨bslc_ok hi (by rw [h0, hρ]; exact rowF32_ok hs (DVs.okAt ha 0 rfl) hv40), trivial⟩ hy⟩) rfl
  · cases hr
/-! spec.l02Is -/
noncomputable def spec_l02Is_LO (v32 : Int) (v33 : Int) (v34 : List Nat) : LOr := fun id e L =>
  match id with
  | _ => .fail
noncomputable def spec_l02Is_tab : List (FuncId × DFn × Bool) := [(82, spec_l02Sides_F, true), (83, spec_l02Finite_F, true)]
theorem spec_l02Is_hO : OrcOk Try.prog (tabD spec_l02Is_tab) (tabM spec_l02Is_tab) := tabD_cons spec_l02Sides_Fok (tabD_cons spec_l02Finite_Fok (tabD_nil _))
noncomputable def spec_l02Is_T (v32 : Int) (v33 : Int) (v34 : List Nat) : Tree (Bool) :=
  (.br (spec_l02Sides_v v32 v33) (
   (.br (decide (((v34.length : Nat) : Int) = IntKind.i64.wrap (v32 * v33))) (
    (.call (spec_l02Finite_g v34) fun v48 =>
    .leaf v48)
   ) (
    .leaf false
   ))
  ) (
   .leaf false
  ))

noncomputable def spec_l02Is_g (v32 : Int) (v33 : Int) (v34 : List Nat) : Option (Bool) := (spec_l02Is_T v32 v33 v34).run
def spec_l02Is_enc (v32 : Int) (v33 : Int) (v34 : List Nat) (y : Bool) : Rs := (.bool y, [])
theorem spec_l02Is_den (v32 : Int) (v33 : Int) (v34 : List Nat) : (den TT (tabD spec_l02Is_tab) (tabM spec_l02Is_tab) (spec_l02Is_LO v32 v33 v34) (codeOf Try.f61) ([.bptr (BR.root 0) [.int .i64 v32, .int .i64 v33, .bslc (BR.root 1) (.f32 v34)]] ++ List.replicate (Try.f61.ntmps - ([.bptr (BR.root 0) [.int .i64 v32, .int .i64 v33, .bslc (BR.root 1) (.f32 v34)]] : List DV).length) .undef) []).bind (retD TT Try.f61.results.toList 0) = (spec_l02Is_T v32 v33 v34).bind fun y => .leaf (spec_l02Is_enc v32 v33 v34 y) := by kernel_rfl
theorem spec_l02Is_fn (v32 : Int) (v33 : Int) (v34 : List Nat) (F : Fr) (h0 : St F [] F.H0) (hA : DVs.Ok F [] [.bptr (BR.root 0) [.int .i64 v32, .int .i64 v33, .bslc (BR.root 1) (.f32 v34)]]) {y : Bool} (hy : spec_l02Is_g v32 v33 v34 = some y) : ∃ F' H', Fwd 0 F F' [] (spec_l02Is_enc v32 v33 v34 y).2 ∧ FnOk Try.prog 61 (DVs.av F [.bptr (BR.root 0) [.int .i64 v32, .int .i64 v33, .bslc (BR.root 1) (.f32 v34)]]) F.H0 ((spec_l02Is_enc v32 v33 v34 y).1.av F') H' ∧ St F' (spec_l02Is_enc v32 v33 v34 y).2 H' ∧ (spec_l02Is_enc v32 v33 v34 y).1.Ok F' (spec_l02Is_enc v32 v33 v34 y).2 :=
  fn_fin tok spec_l02Is_hO mixed Try.func61 Try.call61 (by kernel_rfl) (LoopsOk_eq (l := []) (by kernel_rfl) trivial) (spec_l02Is_den v32 v33 v34) hy h0 hA
noncomputable def spec_l02Is_F : DFn := fun args L =>
  match args with
  | [a1] =>
    optT (cellsOf L 3 a1) fun cs0 =>
    (match cs0 with
    | [.int .i64 v32, .int .i64 v33, a2] =>
    optT (rowF32 L a2) fun v34 =>
    .call (spec_l02Is_g v32 v33 v34) fun y => .leaf (.bool y, L)
    | _ => .fail)
  | _ => .fail
theorem spec_l02Is_Fok : COk Try.prog 61 spec_l02Is_F true := by
  intro F L H args r L' hs ha hr
  unfold spec_l02Is_F at hr
  split at hr
  · rename_i a1
    obtain ⟨cs0, hcp0, hr⟩ := optT_run hr
    split at hr
    · rename_i v32 v33 a2
      obtain ⟨v34, hv34, hr⟩ := optT_run hr
      simp only [Tree.run] at hr
      obtain ⟨y, hy, hr⟩ := Option.bind_eq_some_iff.1 hr
      simp only [Tree.run, Option.some.injEq, Prod.mk.injEq] at hr
      obtain ⟨rfl, rfl⟩ := hr
      exact call_ok0 hs (fun k => (([a1.av F, a2.av F] : List AV)[k]?).getD .top) [a1] [.bptr (BR.root 0) [.int .i64 v32, .int .i64 v33, .bslc (BR.root 1) (.f32 v34)]] (fun F' h0 hi hρ => ⟨by simp [DVs.av, DV.av, BR.av, hρ], spec_l02Is_fn v32 v33 v34 F' (st_nil hi) ⟨bptr_ok hi (by rw [h0]; simpa [DVs.av, DV.av, BR.av, hρ] using (cellsOf_ok hs (DVs.okAt ha 0 rfl) hcp0).1) ⟨trivial, trivial, bslc_ok hi (by rw [h0, hρ]; exact rowF32_ok hs (DVs.okAt (cellsOf_ok hs (DVs.okAt ha 0 rfl) hcp0).2 2 rfl) hv34), trivial⟩, trivial⟩ hy⟩) rfl
    · cases hr
  · cases hr
/-! spec.l07Sheet -/
noncomputable def spec_l07Sheet_LO (v20 : ByteArray) (v21 : Int) (v22 : Int) (v23 : List Nat) : LOr := fun id e L =>
  match id with
  | _ => .fail
noncomputable def spec_l07Sheet_tab : List (FuncId × DFn × Bool) := [(60, spec_l07Name_F, true), (61, spec_l02Is_F, true)]
theorem spec_l07Sheet_hO : OrcOk Try.prog (tabD spec_l07Sheet_tab) (tabM spec_l07Sheet_tab) := tabD_cons spec_l07Name_Fok (tabD_cons spec_l02Is_Fok (tabD_nil _))
noncomputable def spec_l07Sheet_T (v20 : ByteArray) (v21 : Int) (v22 : Int) (v23 : List Nat) : Tree (Bool) :=
  (.call (spec_l07Name_g v20) fun v31 =>
  (.br v31 (
   (.call (spec_l02Is_g v21 v22 v23) fun v49 =>
   .leaf v49)
  ) (
   .leaf false
  )))

noncomputable def spec_l07Sheet_g (v20 : ByteArray) (v21 : Int) (v22 : Int) (v23 : List Nat) : Option (Bool) := (spec_l07Sheet_T v20 v21 v22 v23).run
def spec_l07Sheet_enc (v20 : ByteArray) (v21 : Int) (v22 : Int) (v23 : List Nat) (y : Bool) : Rs := (.bool y, [])
theorem spec_l07Sheet_den (v20 : ByteArray) (v21 : Int) (v22 : Int) (v23 : List Nat) : (den TT (tabD spec_l07Sheet_tab) (tabM spec_l07Sheet_tab) (spec_l07Sheet_LO v20 v21 v22 v23) (codeOf Try.f34) ([.bptr (BR.root 0) [.str v20, .int .i64 v21, .int .i64 v22, .bslc (BR.root 1) (.f32 v23)]] ++ List.replicate (Try.f34.ntmps - ([.bptr (BR.root 0) [.str v20, .int .i64 v21, .int .i64 v22, .bslc (BR.root 1) (.f32 v23)]] : List DV).length) .undef) []).bind (retD TT Try.f34.results.toList 0) = (spec_l07Sheet_T v20 v21 v22 v23).bind fun y => .leaf (spec_l07Sheet_enc v20 v21 v22 v23 y) := by kernel_rfl
theorem spec_l07Sheet_fn (v20 : ByteArray) (v21 : Int) (v22 : Int) (v23 : List Nat) (F : Fr) (h0 : St F [] F.H0) (hA : DVs.Ok F [] [.bptr (BR.root 0) [.str v20, .int .i64 v21, .int .i64 v22, .bslc (BR.root 1) (.f32 v23)]]) {y : Bool} (hy : spec_l07Sheet_g v20 v21 v22 v23 = some y) : ∃ F' H', Fwd 0 F F' [] (spec_l07Sheet_enc v20 v21 v22 v23 y).2 ∧ FnOk Try.prog 34 (DVs.av F [.bptr (BR.root 0) [.str v20, .int .i64 v21, .int .i64 v22, .bslc (BR.root 1) (.f32 v23)]]) F.H0 ((spec_l07Sheet_enc v20 v21 v22 v23 y).1.av F') H' ∧ St F' (spec_l07Sheet_enc v20 v21 v22 v23 y).2 H' ∧ (spec_l07Sheet_enc v20 v21 v22 v23 y).1.Ok F' (spec_l07Sheet_enc v20 v21 v22 v23 y).2 :=
  fn_fin tok spec_l07Sheet_hO mixed Try.func34 Try.call34 (by kernel_rfl) (LoopsOk_eq (l := []) (by kernel_rfl) trivial) (spec_l07Sheet_den v20 v21 v22 v23) hy h0 hA
noncomputable def spec_l07Sheet_F : DFn := fun args L =>
  match args with
  | [a1] =>
    optT (cellsOf L 4 a1) fun cs0 =>
    (match cs0 with
    | [.str v20, .int .i64 v21, .int .i64 v22, a2] =>
    optT (rowF32 L a2) fun v23 =>
    .call (spec_l07Sheet_g v20 v21 v22 v23) fun y => .leaf (.bool y, L)
    | _ => .fail)
  | _ => .fail
theorem spec_l07Sheet_Fok : COk Try.prog 34 spec_l07Sheet_F true := by
  intro F L H args r L' hs ha hr
  unfold spec_l07Sheet_F at hr
  split at hr
  · rename_i a1
    obtain ⟨cs0, hcp0, hr⟩ := optT_run hr
    split at hr
    · rename_i v20 v21 v22 a2
      obtain ⟨v23, hv23, hr⟩ := optT_run hr
      simp only [Tree.run] at hr
      obtain ⟨y, hy, hr⟩ := Option.bind_eq_some_iff.1 hr
      simp only [Tree.run, Option.some.injEq, Prod.mk.injEq] at hr
      obtain ⟨rfl, rfl⟩ := hr
      exact call_ok0 hs (fun k => (([a1.av F, a2.av F] : List AV)[k]?).getD .top) [a1] [.bptr (BR.root 0) [.str v20, .int .i64 v21, .int .i64 v22, .bslc (BR.root 1) (.f32 v23)]] (fun F' h0 hi hρ => ⟨by simp [DVs.av, DV.av, BR.av, hρ], spec_l07Sheet_fn v20 v21 v22 v23 F' (st_nil hi) ⟨bptr_ok hi (by rw [h0]; simpa [DVs.av, DV.av, BR.av, hρ] using (cellsOf_ok hs (DVs.okAt ha 0 rfl) hcp0).1) ⟨trivial, trivial, trivial, bslc_ok hi (by rw [h0, hρ]; exact rowF32_ok hs (DVs.okAt (cellsOf_ok hs (DVs.okAt ha 0 rfl) hcp0).2 3 rfl) hv23), trivial⟩, trivial⟩ hy⟩) rfl
    · cases hr
  · cases hr
/-! spec.l01Bits -/
noncomputable def spec_l01Bits_LO (v56 : Nat) : LOr := fun id e L =>
  match id with
  | _ => .fail
noncomputable def spec_l01Bits_tab : List (FuncId × DFn × Bool) := [(84, Bits32_F, true)]
theorem spec_l01Bits_hO : OrcOk Try.prog (tabD spec_l01Bits_tab) (tabM spec_l01Bits_tab) := tabD_cons Bits32_Fok (tabD_nil _)
noncomputable def spec_l01Bits_T (v56 : Nat) : Tree (Int) :=
  (.br (!feq .f32 v56 v56) (
   .leaf (2143289344 : Int)
  ) (
   (.grd (!isNan .f32 v56) <|
   .leaf (IntKind.i64.wrap (((v56 : Nat) : Int))))
  ))

noncomputable def spec_l01Bits_g (v56 : Nat) : Option (Int) := (spec_l01Bits_T v56).run
def spec_l01Bits_enc (v56 : Nat) (y : Int) : Rs := (.int .i64 y, [])
theorem spec_l01Bits_den (v56 : Nat) : (den TT (tabD spec_l01Bits_tab) (tabM spec_l01Bits_tab) (spec_l01Bits_LO v56) (codeOf Try.f62) ([.flt .f32 v56] ++ List.replicate (Try.f62.ntmps - ([.flt .f32 v56] : List DV).length) .undef) []).bind (retD TT Try.f62.results.toList 0) = (spec_l01Bits_T v56).bind fun y => .leaf (spec_l01Bits_enc v56 y) := by kernel_rfl
theorem spec_l01Bits_fn (v56 : Nat) (F : Fr) (h0 : St F [] F.H0) (hA : DVs.Ok F [] [.flt .f32 v56]) {y : Int} (hy : spec_l01Bits_g v56 = some y) : ∃ F' H', Fwd 0 F F' [] (spec_l01Bits_enc v56 y).2 ∧ FnOk Try.prog 62 (DVs.av F [.flt .f32 v56]) F.H0 ((spec_l01Bits_enc v56 y).1.av F') H' ∧ St F' (spec_l01Bits_enc v56 y).2 H' ∧ (spec_l01Bits_enc v56 y).1.Ok F' (spec_l01Bits_enc v56 y).2 :=
  fn_fin tok spec_l01Bits_hO mixed Try.func62 Try.call62 (by kernel_rfl) (LoopsOk_eq (l := []) (by kernel_rfl) trivial) (spec_l01Bits_den v56) hy h0 hA
noncomputable def spec_l01Bits_F : DFn := fun args L =>
  match args with
  | [.flt .f32 v56] =>
    .call (spec_l01Bits_g v56) fun y => .leaf (.int .i64 y, L)
  | _ => .fail
theorem spec_l01Bits_Fok : COk Try.prog 62 spec_l01Bits_F true := by
  intro F L H args r L' hs ha hr
  unfold spec_l01Bits_F at hr
  split at hr
  · rename_i v56
    simp only [Tree.run] at hr
    obtain ⟨y, hy, hr⟩ := Option.bind_eq_some_iff.1 hr
    simp only [Tree.run, Option.some.injEq, Prod.mk.injEq] at hr
    obtain ⟨rfl, rfl⟩ := hr
    exact call_ok0 hs (fun k => (([] : List AV)[k]?).getD .top) [.flt .f32 v56] [.flt .f32 v56] (fun F' h0 hi hρ => ⟨by simp [DVs.av, DV.av, BR.av, hρ], spec_l01Bits_fn v56 F' (st_nil hi) ⟨trivial, trivial⟩ hy⟩) rfl
  · cases hr
/-! spec.l01Check -/
noncomputable def spec_l01Check_l0_T (v66 : ByteArray) (s : Int × Int) : Tree ((Int × Int) ⊕ (Int)) :=
  (.br (decide (s.2 < ((v66.size : Nat) : Int))) (
   (.grd (inb s.2 v66.size) <|
   (.grd (!decide ((65003 : Int) = 0)) <|
   .leaf (.inl (Int.tmod (IntKind.i64.wrap ((IntKind.i64.wrap ((IntKind.i64.wrap ((863 : Int) * s.1)) + (IntKind.i64.wrap (bt v66 s.2)))) + (157 : Int))) (65003 : Int), IntKind.i64.wrap (s.2 + (1 : Int))))))
  ) (
   .leaf (.inr s.1)
  ))

noncomputable def spec_l01Check_l0_g (v66 : ByteArray) (s0 : Int × Int) : Option (Int) := whileM (fun s => (spec_l01Check_l0_T v66 s).run) s0
def spec_l01Check_l0_E (v65 : Int) (v66 : ByteArray) (s : Int × Int) : Sd := ([.int .i64 s.1,.str v66,tp,tp,tp,.int .i64 s.2,tp,tp,tp,tp,tp,tp,tp,tp,tp,tp,tp,tp,tp,tp,tp,tp], [])
def spec_l01Check_l0_X (v65 : Int) (v66 : ByteArray) (x : Int) : Out := (.normal, [.int .i64 x,tp,tp,tp,tp,tp,tp,tp,tp,tp,tp,tp,tp,tp,tp,tp,tp,tp,tp,tp,tp,tp], [])
def spec_l01Check_l0_kill : List Nat := KL true [0,2,3,1,16]
def spec_l01Check_l0_nx : Exit → List Nat
  | .exit 0 => KL true [0,1,21]
  | .ret => KL true [4,1,17]
  | _ => []
noncomputable def spec_l01Check_LO (v65 : Int) (v66 : ByteArray) : LOr := fun id e L =>
  match id with
  | 0 => .need (normA 0 spec_l01Check_l0_kill e L = some (spec_l01Check_l0_E v65 v66 ((gI (vAt e 0)), (gI (vAt e 5))))) (.call (spec_l01Check_l0_g v66 ((gI (vAt e 0)), (gI (vAt e 5)))) fun x => .leaf (spec_l01Check_l0_X v65 v66 x))
  | _ => .fail
noncomputable def spec_l01Check_tab : List (FuncId × DFn × Bool) := []
theorem spec_l01Check_hO : OrcOk Try.prog (tabD spec_l01Check_tab) (tabM spec_l01Check_tab) := tabD_nil _
theorem spec_l01Check_l0_be (v65 : Int) (v66 : ByteArray) (s : Int × Int) : bodyT TT (tabD spec_l01Check_tab) (tabM spec_l01Check_tab) (spec_l01Check_LO v65 v66) 0 spec_l01Check_l0_kill spec_l01Check_l0_nx (bodyOf Try.f63 0) 0 (spec_l01Check_l0_E v65 v66 s) = (spec_l01Check_l0_T v66 s).bind fun y => .leaf (outS (spec_l01Check_l0_E v65 v66) (spec_l01Check_l0_X v65 v66) y) := by kernel_rfl
theorem spec_l01Check_l0_ok (v65 : Int) (v66 : ByteArray) : LSound Try.prog 0 (spec_l01Check_LO v65 v66) 0 (bodyOf Try.f63 0) := by
  intro e L out h
  exact lo_ok (E := spec_l01Check_l0_E v65 v66) (gT := spec_l01Check_l0_T v66) (X := spec_l01Check_l0_X v65 v66) (s0 := ((gI (vAt e 0)), (gI (vAt e 5)))) tok spec_l01Check_hO mixed (LoopsOk_eq (l := []) (by kernel_rfl) trivial) (spec_l01Check_l0_be v65 v66) rfl (by intro x; rfl) h
noncomputable def spec_l01Check_T (v65 : Int) (v66 : ByteArray) : Tree (Int) :=
  (.need (some (spec_l01Check_l0_E v65 v66 (v65, (0 : Int))) = some (spec_l01Check_l0_E v65 v66 (v65, (0 : Int)))) <|
  (.call (spec_l01Check_l0_g v66 (v65, (0 : Int))) fun v73 =>
  .leaf v73))

noncomputable def spec_l01Check_g (v65 : Int) (v66 : ByteArray) : Option (Int) := (spec_l01Check_T v65 v66).run
def spec_l01Check_enc (v65 : Int) (v66 : ByteArray) (y : Int) : Rs := (.int .i64 y, [])
theorem spec_l01Check_den (v65 : Int) (v66 : ByteArray) : (den TT (tabD spec_l01Check_tab) (tabM spec_l01Check_tab) (spec_l01Check_LO v65 v66) (codeOf Try.f63) ([.int .i64 v65, .str v66] ++ List.replicate (Try.f63.ntmps - ([.int .i64 v65, .str v66] : List DV).length) .undef) []).bind (retD TT Try.f63.results.toList 0) = (spec_l01Check_T v65 v66).bind fun y => .leaf (spec_l01Check_enc v65 v66 y) := by kernel_rfl
theorem spec_l01Check_fn (v65 : Int) (v66 : ByteArray) (F : Fr) (h0 : St F [] F.H0) (hA : DVs.Ok F [] [.int .i64 v65, .str v66]) {y : Int} (hy : spec_l01Check_g v65 v66 = some y) : ∃ F' H', Fwd 0 F F' [] (spec_l01Check_enc v65 v66 y).2 ∧ FnOk Try.prog 63 (DVs.av F [.int .i64 v65, .str v66]) F.H0 ((spec_l01Check_enc v65 v66 y).1.av F') H' ∧ St F' (spec_l01Check_enc v65 v66 y).2 H' ∧ (spec_l01Check_enc v65 v66 y).1.Ok F' (spec_l01Check_enc v65 v66 y).2 :=
  fn_fin tok spec_l01Check_hO mixed Try.func63 Try.call63 (by kernel_rfl) (LoopsOk_eq (l := [(0, bodyOf Try.f63 0)]) (by kernel_rfl) ⟨spec_l01Check_l0_ok v65 v66, trivial⟩) (spec_l01Check_den v65 v66) hy h0 hA
noncomputable def spec_l01Check_F : DFn := fun args L =>
  match args with
  | [.int .i64 v65, .str v66] =>
    .call (spec_l01Check_g v65 v66) fun y => .leaf (.int .i64 y, L)
  | _ => .fail
theorem spec_l01Check_Fok : COk Try.prog 63 spec_l01Check_F true := by
  intro F L H args r L' hs ha hr
  unfold spec_l01Check_F at hr
  split at hr
  · rename_i v65 v66
    simp only [Tree.run] at hr
    obtain ⟨y, hy, hr⟩ := Option.bind_eq_some_iff.1 hr
    simp only [Tree.run, Option.some.injEq, Prod.mk.injEq] at hr
    obtain ⟨rfl, rfl⟩ := hr
    exact call_ok0 hs (fun k => (([] : List AV)[k]?).getD .top) [.int .i64 v65, .str v66] [.int .i64 v65, .str v66] (fun F' h0 hi hρ => ⟨by simp [DVs.av, DV.av, BR.av, hρ], spec_l01Check_fn v65 v66 F' (st_nil hi) ⟨trivial, trivial, trivial⟩ hy⟩) rfl
  · cases hr
/-! spec.l07Store -/
noncomputable def spec_l07Store_l0_T (v54 : List Nat) (s : Int × (List Int)) : Tree ((Int × (List Int)) ⊕ ((List Int))) :=
  (.br (decide (s.1 < ((v54.length : Nat) : Int))) (
   (.grd (inb s.1 v54.length) <|
   (.call (spec_l01Bits_g (nth v54 (Int.toNat s.1))) fun v63 =>
   (.grd (!decide ((256 : Int) = 0)) <|
   (.grd (!decide ((256 : Int) = 0)) <|
   (.grd (!decide ((256 : Int) = 0)) <|
   (.grd (!decide ((65536 : Int) = 0)) <|
   (.grd (!decide ((256 : Int) = 0)) <|
   (.grd (!decide ((16777216 : Int) = 0)) <|
   (.grd (fits (s.2 ++ ([IntKind.u8.wrap (Int.tmod v63 (256 : Int)), IntKind.u8.wrap (Int.tmod (IntKind.i64.wrap (Int.tdiv v63 (256 : Int))) (256 : Int)), IntKind.u8.wrap (Int.tmod (IntKind.i64.wrap (Int.tdiv v63 (65536 : Int))) (256 : Int)), IntKind.u8.wrap (IntKind.i64.wrap (Int.tdiv v63 (16777216 : Int)))] : List Int)).length) <|
   .leaf (.inl (IntKind.i64.wrap (s.1 + (1 : Int)), s.2 ++ ([IntKind.u8.wrap (Int.tmod v63 (256 : Int)), IntKind.u8.wrap (Int.tmod (IntKind.i64.wrap (Int.tdiv v63 (256 : Int))) (256 : Int)), IntKind.u8.wrap (Int.tmod (IntKind.i64.wrap (Int.tdiv v63 (65536 : Int))) (256 : Int)), IntKind.u8.wrap (IntKind.i64.wrap (Int.tdiv v63 (16777216 : Int)))] : List Int))))))))))))
  ) (
   .leaf (.inr s.2)
  ))

noncomputable def spec_l07Store_l0_g (v54 : List Nat) (s0 : Int × (List Int)) : Option ((List Int)) := whileM (fun s => (spec_l07Store_l0_T v54 s).run) s0
def spec_l07Store_l0_E (v51 : ByteArray) (v52 : Int) (v53 : Int) (v54 : List Nat) (s : Int × (List Int)) : Sd := ([.bptr (BR.root 0) [.str v51, .int .i64 v52, .int .i64 v53, .bslc (BR.root 1) (.f32 v54)],tp,tp,.own 0 0 ((s.2).length),tp,tp,tp,tp,tp,tp,tp,tp,tp,tp,tp,tp,tp,tp,tp,tp,tp,tp,tp,tp,tp,tp,tp,tp,tp,tp,tp,tp,tp,tp,tp,tp,tp,tp,tp,tp,tp,tp,tp,tp,.int .i64 ((v54.length : Nat) : Int),.int .i64 s.1,tp,tp,tp,tp,tp,tp,tp,tp,tp,tp,tp,tp,tp,tp,tp,tp,tp,tp,tp,tp,tp,tp,tp,tp,tp,tp,tp,tp,tp,tp,tp,tp,tp,tp,tp,tp,tp,tp,tp,tp,tp,tp], [.row (.u8 s.2) 0])
def spec_l07Store_l0_X (v51 : ByteArray) (v52 : Int) (v53 : Int) (v54 : List Nat) (x : (List Int)) : Out := (.normal, [tp,tp,tp,.own 0 0 ((x).length),tp,tp,tp,tp,tp,tp,tp,tp,tp,tp,tp,tp,tp,tp,tp,tp,tp,tp,tp,tp,tp,tp,tp,tp,tp,tp,tp,tp,tp,tp,tp,tp,tp,tp,tp,tp,tp,tp,tp,tp,tp,tp,tp,tp,tp,tp,tp,tp,tp,tp,tp,tp,tp,tp,tp,tp,tp,tp,tp,tp,tp,tp,tp,tp,tp,tp,tp,tp,tp,tp,tp,tp,tp,tp,tp,tp,tp,tp,tp,tp,tp,tp,tp,tp], [.row (.u8 x) 0])
def spec_l07Store_l0_kill : List Nat := KL true [0,1,2,1,40,2,42]
def spec_l07Store_l0_nx : Exit → List Nat
  | .exit 0 => KL true [3,1,84]
  | .ret => KL true [2,1,85]
  | _ => []
noncomputable def spec_l07Store_LO (v51 : ByteArray) (v52 : Int) (v53 : Int) (v54 : List Nat) : LOr := fun id e L =>
  match id with
  | 0 => .need (normA 0 spec_l07Store_l0_kill e L = some (spec_l07Store_l0_E v51 v52 v53 v54 ((gI (vAt e 45)), (gRI L (vAt e 3))))) (.call (spec_l07Store_l0_g v54 ((gI (vAt e 45)), (gRI L (vAt e 3)))) fun x => .leaf (spec_l07Store_l0_X v51 v52 v53 v54 x))
  | _ => .fail
noncomputable def spec_l07Store_tab : List (FuncId × DFn × Bool) := [(62, spec_l01Bits_F, true), (63, spec_l01Check_F, true)]
theorem spec_l07Store_hO : OrcOk Try.prog (tabD spec_l07Store_tab) (tabM spec_l07Store_tab) := tabD_cons spec_l01Bits_Fok (tabD_cons spec_l01Check_Fok (tabD_nil _))
theorem spec_l07Store_l0_be (v51 : ByteArray) (v52 : Int) (v53 : Int) (v54 : List Nat) (s : Int × (List Int)) : bodyT TT (tabD spec_l07Store_tab) (tabM spec_l07Store_tab) (spec_l07Store_LO v51 v52 v53 v54) 0 spec_l07Store_l0_kill spec_l07Store_l0_nx (bodyOf Try.f35 0) 0 (spec_l07Store_l0_E v51 v52 v53 v54 s) = (spec_l07Store_l0_T v54 s).bind fun y => .leaf (outS (spec_l07Store_l0_E v51 v52 v53 v54) (spec_l07Store_l0_X v51 v52 v53 v54) y) := by kernel_rfl
theorem spec_l07Store_l0_ok (v51 : ByteArray) (v52 : Int) (v53 : Int) (v54 : List Nat) : LSound Try.prog 0 (spec_l07Store_LO v51 v52 v53 v54) 0 (bodyOf Try.f35 0) := by
  intro e L out h
  exact lo_ok (E := spec_l07Store_l0_E v51 v52 v53 v54) (gT := spec_l07Store_l0_T v54) (X := spec_l07Store_l0_X v51 v52 v53 v54) (s0 := ((gI (vAt e 45)), (gRI L (vAt e 3)))) tok spec_l07Store_hO mixed (LoopsOk_eq (l := []) (by kernel_rfl) trivial) (spec_l07Store_l0_be v51 v52 v53 v54) rfl (by intro x; rfl) h
noncomputable def spec_l07Store_T (v51 : ByteArray) (v52 : Int) (v53 : Int) (v54 : List Nat) : Tree (ByteArray) :=
  (.grd (decide (0 < (([(77 : Int), (65 : Int), (84 : Int), (49 : Int)] : List Int).length))) <|
  (.grd (fits (([(77 : Int), (65 : Int), (84 : Int), (49 : Int)] : List Int) ++ ([IntKind.u8.wrap (((v51.size : Nat) : Int))] : List Int)).length) <|
  (.grd (fits v51.size) <|
  (.grd (fits ((([(77 : Int), (65 : Int), (84 : Int), (49 : Int)] : List Int) ++ ([IntKind.u8.wrap (((v51.size : Nat) : Int))] : List Int)) ++ (numsS v51)).length) <|
  (.grd (fits (((([(77 : Int), (65 : Int), (84 : Int), (49 : Int)] : List Int) ++ ([IntKind.u8.wrap (((v51.size : Nat) : Int))] : List Int)) ++ (numsS v51)) ++ ([IntKind.u8.wrap (v52), IntKind.u8.wrap (v53)] : List Int)).length) <|
  (.need (some (spec_l07Store_l0_E v51 v52 v53 v54 ((0 : Int), ((([(77 : Int), (65 : Int), (84 : Int), (49 : Int)] : List Int) ++ ([IntKind.u8.wrap (((v51.size : Nat) : Int))] : List Int)) ++ (numsS v51)) ++ ([IntKind.u8.wrap (v52), IntKind.u8.wrap (v53)] : List Int))) = some (spec_l07Store_l0_E v51 v52 v53 v54 ((0 : Int), ((([(77 : Int), (65 : Int), (84 : Int), (49 : Int)] : List Int) ++ ([IntKind.u8.wrap (((v51.size : Nat) : Int))] : List Int)) ++ (numsS v51)) ++ ([IntKind.u8.wrap (v52), IntKind.u8.wrap (v53)] : List Int)))) <|
  (.call (spec_l07Store_l0_g v54 ((0 : Int), ((([(77 : Int), (65 : Int), (84 : Int), (49 : Int)] : List Int) ++ ([IntKind.u8.wrap (((v51.size : Nat) : Int))] : List Int)) ++ (numsS v51)) ++ ([IntKind.u8.wrap (v52), IntKind.u8.wrap (v53)] : List Int))) fun v64 =>
  (.call (spec_l01Check_g (0 : Int) (strOfNums v64)) fun v74 =>
  (.grd (!decide ((256 : Int) = 0)) <|
  (.grd (!decide ((256 : Int) = 0)) <|
  (.grd (fits (v64 ++ ([IntKind.u8.wrap (Int.tmod v74 (256 : Int)), IntKind.u8.wrap (IntKind.i64.wrap (Int.tdiv v74 (256 : Int)))] : List Int)).length) <|
  .leaf (strOfNums (v64 ++ ([IntKind.u8.wrap (Int.tmod v74 (256 : Int)), IntKind.u8.wrap (IntKind.i64.wrap (Int.tdiv v74 (256 : Int)))] : List Int))))))))))))))

noncomputable def spec_l07Store_g (v51 : ByteArray) (v52 : Int) (v53 : Int) (v54 : List Nat) : Option (ByteArray) := (spec_l07Store_T v51 v52 v53 v54).run
def spec_l07Store_enc (v51 : ByteArray) (v52 : Int) (v53 : Int) (v54 : List Nat) (y : ByteArray) : Rs := (.str y, [])
theorem spec_l07Store_den (v51 : ByteArray) (v52 : Int) (v53 : Int) (v54 : List Nat) : (den TT (tabD spec_l07Store_tab) (tabM spec_l07Store_tab) (spec_l07Store_LO v51 v52 v53 v54) (codeOf Try.f35) ([.bptr (BR.root 0) [.str v51, .int .i64 v52, .int .i64 v53, .bslc (BR.root 1) (.f32 v54)]] ++ List.replicate (Try.f35.ntmps - ([.bptr (BR.root 0) [.str v51, .int .i64 v52, .int .i64 v53, .bslc (BR.root 1) (.f32 v54)]] : List DV).length) .undef) []).bind (retD TT Try.f35.results.toList 0) = (spec_l07Store_T v51 v52 v53 v54).bind fun y => .leaf (spec_l07Store_enc v51 v52 v53 v54 y) := by kernel_rfl
theorem spec_l07Store_fn (v51 : ByteArray) (v52 : Int) (v53 : Int) (v54 : List Nat) (F : Fr) (h0 : St F [] F.H0) (hA : DVs.Ok F [] [.bptr (BR.root 0) [.str v51, .int .i64 v52, .int .i64 v53, .bslc (BR.root 1) (.f32 v54)]]) {y : ByteArray} (hy : spec_l07Store_g v51 v52 v53 v54 = some y) : ∃ F' H', Fwd 0 F F' [] (spec_l07Store_enc v51 v52 v53 v54 y).2 ∧ FnOk Try.prog 35 (DVs.av F [.bptr (BR.root 0) [.str v51, .int .i64 v52, .int .i64 v53, .bslc (BR.root 1) (.f32 v54)]]) F.H0 ((spec_l07Store_enc v51 v52 v53 v54 y).1.av F') H' ∧ St F' (spec_l07Store_enc v51 v52 v53 v54 y).2 H' ∧ (spec_l07Store_enc v51 v52 v53 v54 y).1.Ok F' (spec_l07Store_enc v51 v52 v53 v54 y).2 :=
  fn_fin tok spec_l07Store_hO mixed Try.func35 Try.call35 (by kernel_rfl) (LoopsOk_eq (l := [(0, bodyOf Try.f35 0)]) (by kernel_rfl) ⟨spec_l07Store_l0_ok v51 v52 v53 v54, trivial⟩) (spec_l07Store_den v51 v52 v53 v54) hy h0 hA
noncomputable def spec_l07Store_F : DFn := fun args L =>
  match args with
  | [a1] =>
    optT (cellsOf L 4 a1) fun cs0 =>
    (match cs0 with
    | [.str v51, .int .i64 v52, .int .i64 v53, a2] =>
    optT (rowF32 L a2) fun v54 =>
    .call (spec_l07Store_g v51 v52 v53 v54) fun y => .leaf (.str y, L)
    | _ => .fail)
  | _ => .fail
theorem spec_l07Store_Fok : COk Try.prog 35 spec_l07Store_F true := by
  intro F L H args r L' hs ha hr
  unfold spec_l07Store_F at hr
  split at hr
  · rename_i a1
    obtain ⟨cs0, hcp0, hr⟩ := optT_run hr
    split at hr
    · rename_i v51 v52 v53 a2
      obtain ⟨v54, hv54, hr⟩ := optT_run hr
      simp only [Tree.run] at hr
      obtain ⟨y, hy, hr⟩ := Option.bind_eq_some_iff.1 hr
      simp only [Tree.run, Option.some.injEq, Prod.mk.injEq] at hr
      obtain ⟨rfl, rfl⟩ := hr
      exact call_ok0 hs (fun k => (([a1.av F, a2.av F] : List AV)[k]?).getD .top) [a1] [.bptr (BR.root 0) [.str v51, .int .i64 v52, .int .i64 v53, .bslc (BR.root 1) (.f32 v54)]] (fun F' h0 hi hρ => ⟨by simp [DVs.av, DV.av, BR.av, hρ], spec_l07Store_fn v51 v52 v53 v54 F' (st_nil hi) ⟨bptr_ok hi (by rw [h0]; simpa [DVs.av, DV.av, BR.av, hρ] using (cellsOf_ok hs (DVs.okAt ha 0 rfl) hcp0).1) ⟨trivial, trivial, trivial, bslc_ok hi (by rw [h0, hρ]; exact rowF32_ok hs (DVs.okAt (cellsOf_ok hs (DVs.okAt ha 0 rfl) hcp0).2 3 rfl) hv54), trivial⟩, trivial⟩ hy⟩) rfl
    · cases hr
  · cases hr
/-! spec.l07Load -/
noncomputable def spec_l07Load_l0_T (v6 : ByteArray) (v16 : Int) (s : Int × (List Nat)) : Tree ((Int × (List Nat)) ⊕ ((List Nat))) :=
  (.br (decide (IntKind.i64.wrap (s.1 + (4 : Int)) < v16)) (
   (.grd (inb s.1 v6.size) <|
   (.grd (inb (IntKind.i64.wrap (s.1 + (1 : Int))) v6.size) <|
   (.grd (inb (IntKind.i64.wrap (s.1 + (2 : Int))) v6.size) <|
   (.grd (inb (IntKind.i64.wrap (s.1 + (3 : Int))) v6.size) <|
   (.grd (fits (s.2 ++ ([(spec_l01From_v (IntKind.i64.wrap ((IntKind.i64.wrap ((IntKind.i64.wrap ((IntKind.i64.wrap (bt v6 s.1)) + (IntKind.i64.wrap ((256 : Int) * (IntKind.i64.wrap (bt v6 (IntKind.i64.wrap (s.1 + (1 : Int))))))))) + (IntKind.i64.wrap ((65536 : Int) * (IntKind.i64.wrap (bt v6 (IntKind.i64.wrap (s.1 + (2 : Int))))))))) + (IntKind.i64.wrap ((16777216 : Int) * (IntKind.i64.wrap (bt v6 (IntKind.i64.wrap (s.1 + (3 : Int))))))))))] : List Nat)).length) <|
   .leaf (.inl (IntKind.i64.wrap (s.1 + (4 : Int)), s.2 ++ ([(spec_l01From_v (IntKind.i64.wrap ((IntKind.i64.wrap ((IntKind.i64.wrap ((IntKind.i64.wrap (bt v6 s.1)) + (IntKind.i64.wrap ((256 : Int) * (IntKind.i64.wrap (bt v6 (IntKind.i64.wrap (s.1 + (1 : Int))))))))) + (IntKind.i64.wrap ((65536 : Int) * (IntKind.i64.wrap (bt v6 (IntKind.i64.wrap (s.1 + (2 : Int))))))))) + (IntKind.i64.wrap ((16777216 : Int) * (IntKind.i64.wrap (bt v6 (IntKind.i64.wrap (s.1 + (3 : Int))))))))))] : List Nat))))))))
  ) (
   .leaf (.inr s.2)
  ))

noncomputable def spec_l07Load_l0_g (v6 : ByteArray) (v16 : Int) (s0 : Int × (List Nat)) : Option ((List Nat)) := whileM (fun s => (spec_l07Load_l0_T v6 v16 s).run) s0
def spec_l07Load_l0_E (v6 : ByteArray) (v16 : Int) (s : Int × (List Nat)) : Sd := ([.str v6,tp,.ptr 0 (0 : Nat) 0 (4 : Nat),tp,.int .i64 v16,tp,.ptr 1 (0 : Nat) 0 (4 : Nat),.int .i64 s.1,tp,tp,tp,tp,tp,tp,tp,tp,tp,tp,tp,tp,tp,tp,tp,tp,tp,tp,tp,tp,tp,tp,tp,tp,tp,tp,tp,tp,tp,tp,tp,tp,tp,tp,tp,tp,tp,tp,tp,tp,tp,tp,tp,tp,tp,tp,tp,tp,tp,tp,tp,tp,tp,tp,tp,tp,tp,tp,tp,tp,tp,tp,tp,tp,tp,tp,tp,tp,tp,tp,tp,tp,tp,tp,tp,tp,tp,tp,tp,tp,tp], [.gen [.str ByteArray.empty, .int .i64 (0 : Int), .int .i64 (0 : Int), .nilslc] false 0, .gen [.str (ByteArray.extract v6 (Int.toNat (5 : Int)) (Int.toNat (IntKind.i64.wrap ((5 : Int) + (IntKind.i64.wrap (bt v6 (4 : Int))))))), .int .i64 ((spec_l02Blank_v (IntKind.i64.wrap (bt v6 (IntKind.i64.wrap ((5 : Int) + (IntKind.i64.wrap (bt v6 (4 : Int))))))) (IntKind.i64.wrap (bt v6 (IntKind.i64.wrap ((IntKind.i64.wrap ((5 : Int) + (IntKind.i64.wrap (bt v6 (4 : Int))))) + (1 : Int)))))).1), .int .i64 ((spec_l02Blank_v (IntKind.i64.wrap (bt v6 (IntKind.i64.wrap ((5 : Int) + (IntKind.i64.wrap (bt v6 (4 : Int))))))) (IntKind.i64.wrap (bt v6 (IntKind.i64.wrap ((IntKind.i64.wrap ((5 : Int) + (IntKind.i64.wrap (bt v6 (4 : Int))))) + (1 : Int)))))).2), .own 2 0 ((s.2).length)] false 0, .row (.f32 s.2) 0])
def spec_l07Load_l0_X (v6 : ByteArray) (v16 : Int) (x : (List Nat)) : Out := (.normal, [.str v6,tp,.ptr 0 (0 : Nat) 0 (4 : Nat),tp,tp,tp,.ptr 1 (0 : Nat) 0 (4 : Nat),tp,tp,tp,tp,tp,tp,tp,tp,tp,tp,tp,tp,tp,tp,tp,tp,tp,tp,tp,tp,tp,tp,tp,tp,tp,tp,tp,tp,tp,tp,tp,tp,tp,tp,tp,tp,tp,tp,tp,tp,tp,tp,tp,tp,tp,tp,tp,tp,tp,tp,tp,tp,tp,tp,tp,tp,tp,tp,tp,tp,tp,tp,tp,tp,tp,tp,tp,tp,tp,tp,tp,tp,tp,tp,tp,tp,tp,tp,tp,tp,tp,tp], [.gen [.str ByteArray.empty, .int .i64 (0 : Int), .int .i64 (0 : Int), .nilslc] false 0, .gen [.str (ByteArray.extract v6 (Int.toNat (5 : Int)) (Int.toNat (IntKind.i64.wrap ((5 : Int) + (IntKind.i64.wrap (bt v6 (4 : Int))))))), .int .i64 ((spec_l02Blank_v (IntKind.i64.wrap (bt v6 (IntKind.i64.wrap ((5 : Int) + (IntKind.i64.wrap (bt v6 (4 : Int))))))) (IntKind.i64.wrap (bt v6 (IntKind.i64.wrap ((IntKind.i64.wrap ((5 : Int) + (IntKind.i64.wrap (bt v6 (4 : Int))))) + (1 : Int)))))).1), .int .i64 ((spec_l02Blank_v (IntKind.i64.wrap (bt v6 (IntKind.i64.wrap ((5 : Int) + (IntKind.i64.wrap (bt v6 (4 : Int))))))) (IntKind.i64.wrap (bt v6 (IntKind.i64.wrap ((IntKind.i64.wrap ((5 : Int) + (IntKind.i64.wrap (bt v6 (4 : Int))))) + (1 : Int)))))).2), .own 2 0 ((x).length)] false 0, .row (.f32 x) 0])
def spec_l07Load_l0_kill : List Nat := KL true [0,1,1,1,1,1,1,2,81]
def spec_l07Load_l0_nx : Exit → List Nat
  | .exit 0 => KL true [0,1,1,1,3,1,82]
  | .ret => KL true [2,2,85]
  | _ => []
noncomputable def spec_l07Load_LO (v6 : ByteArray) : LOr := fun id e L =>
  match id with
  | 0 => .need (normA 0 spec_l07Load_l0_kill e L = some (spec_l07Load_l0_E v6 (gI (vAt e 4)) ((gI (vAt e 7)), (gRF L (cAt L (vAt e 6) 3))))) (.call (spec_l07Load_l0_g v6 (gI (vAt e 4)) ((gI (vAt e 7)), (gRF L (cAt L (vAt e 6) 3)))) fun x => .leaf (spec_l07Load_l0_X v6 (gI (vAt e 4)) x))
  | _ => .fail
noncomputable def spec_l07Load_tab : List (FuncId × DFn × Bool) := [(49, spec_l07Long_F, true), (69, spec_l02Blank_F, true), (70, spec_l01From_F, true), (34, spec_l07Sheet_F, true), (35, spec_l07Store_F, true)]
theorem spec_l07Load_hO : OrcOk Try.prog (tabD spec_l07Load_tab) (tabM spec_l07Load_tab) := tabD_cons spec_l07Long_Fok (tabD_cons spec_l02Blank_Fok (tabD_cons spec_l01From_Fok (tabD_cons spec_l07Sheet_Fok (tabD_cons spec_l07Store_Fok (tabD_nil _)))))
theorem spec_l07Load_l0_be (v6 : ByteArray) (v16 : Int) (s : Int × (List Nat)) : bodyT TT (tabD spec_l07Load_tab) (tabM spec_l07Load_tab) (spec_l07Load_LO v6) 0 spec_l07Load_l0_kill spec_l07Load_l0_nx (bodyOf Try.f39 0) 0 (spec_l07Load_l0_E v6 v16 s) = (spec_l07Load_l0_T v6 v16 s).bind fun y => .leaf (outS (spec_l07Load_l0_E v6 v16) (spec_l07Load_l0_X v6 v16) y) := by kernel_rfl
theorem spec_l07Load_l0_ok (v6 : ByteArray) : LSound Try.prog 0 (spec_l07Load_LO v6) 0 (bodyOf Try.f39 0) := by
  intro e L out h
  exact lo_ok (E := spec_l07Load_l0_E v6 (gI (vAt e 4))) (gT := spec_l07Load_l0_T v6 (gI (vAt e 4))) (X := spec_l07Load_l0_X v6 (gI (vAt e 4))) (s0 := ((gI (vAt e 7)), (gRF L (cAt L (vAt e 6) 3)))) tok spec_l07Load_hO mixed (LoopsOk_eq (l := []) (by kernel_rfl) trivial) (spec_l07Load_l0_be v6 (gI (vAt e 4))) rfl (by intro x; rfl) h
noncomputable def spec_l07Load_T (v6 : ByteArray) : Tree ((ByteArray) ⊕ (ByteArray × Int × Int × (List Nat))) :=
  (.call (spec_l07Long_g v6) fun v7 =>
  (.br (decide (v7 = (0 : Int))) (
   .leaf (.inl ByteArray.empty)
  ) (
   (.br (!decide (v7 = ((v6.size : Nat) : Int))) (
    .leaf (.inl ByteArray.empty)
   ) (
    (.grd (inb (4 : Int) v6.size) <|
    (.grd (sok (5 : Int) (IntKind.i64.wrap ((5 : Int) + (IntKind.i64.wrap (bt v6 (4 : Int))))) v6.size) <|
    (.grd (inb (IntKind.i64.wrap ((5 : Int) + (IntKind.i64.wrap (bt v6 (4 : Int))))) v6.size) <|
    (.grd (inb (IntKind.i64.wrap ((IntKind.i64.wrap ((5 : Int) + (IntKind.i64.wrap (bt v6 (4 : Int))))) + (1 : Int))) v6.size) <|
    (.need (some (spec_l07Load_l0_E v6 v7 (IntKind.i64.wrap ((IntKind.i64.wrap ((5 : Int) + (IntKind.i64.wrap (bt v6 (4 : Int))))) + (2 : Int)), ([] : List Nat))) = some (spec_l07Load_l0_E v6 v7 (IntKind.i64.wrap ((IntKind.i64.wrap ((5 : Int) + (IntKind.i64.wrap (bt v6 (4 : Int))))) + (2 : Int)), ([] : List Nat)))) <|
    (.call (spec_l07Load_l0_g v6 v7 (IntKind.i64.wrap ((IntKind.i64.wrap ((5 : Int) + (IntKind.i64.wrap (bt v6 (4 : Int))))) + (2 : Int)), ([] : List Nat))) fun v19 =>
    (.call (spec_l07Sheet_g (ByteArray.extract v6 (Int.toNat (5 : Int)) (Int.toNat (IntKind.i64.wrap ((5 : Int) + (IntKind.i64.wrap (bt v6 (4 : Int))))))) ((spec_l02Blank_v (IntKind.i64.wrap (bt v6 (IntKind.i64.wrap ((5 : Int) + (IntKind.i64.wrap (bt v6 (4 : Int))))))) (IntKind.i64.wrap (bt v6 (IntKind.i64.wrap ((IntKind.i64.wrap ((5 : Int) + (IntKind.i64.wrap (bt v6 (4 : Int))))) + (1 : Int)))))).1) ((spec_l02Blank_v (IntKind.i64.wrap (bt v6 (IntKind.i64.wrap ((5 : Int) + (IntKind.i64.wrap (bt v6 (4 : Int))))))) (IntKind.i64.wrap (bt v6 (IntKind.i64.wrap ((IntKind.i64.wrap ((5 : Int) + (IntKind.i64.wrap (bt v6 (4 : Int))))) + (1 : Int)))))).2) v19) fun v50 =>
    (.br (!v50) (
     .leaf (.inl ByteArray.empty)
    ) (
     (.call (spec_l07Store_g (ByteArray.extract v6 (Int.toNat (5 : Int)) (Int.toNat (IntKind.i64.wrap ((5 : Int) + (IntKind.i64.wrap (bt v6 (4 : Int))))))) ((spec_l02Blank_v (IntKind.i64.wrap (bt v6 (IntKind.i64.wrap ((5 : Int) + (IntKind.i64.wrap (bt v6 (4 : Int))))))) (IntKind.i64.wrap (bt v6 (IntKind.i64.wrap ((IntKind.i64.wrap ((5 : Int) + (IntKind.i64.wrap (bt v6 (4 : Int))))) + (1 : Int)))))).1) ((spec_l02Blank_v (IntKind.i64.wrap (bt v6 (IntKind.i64.wrap ((5 : Int) + (IntKind.i64.wrap (bt v6 (4 : Int))))))) (IntKind.i64.wrap (bt v6 (IntKind.i64.wrap ((IntKind.i64.wrap ((5 : Int) + (IntKind.i64.wrap (bt v6 (4 : Int))))) + (1 : Int)))))).2) v19) fun v75 =>
     (.br (!(v75.toList == v6.toList)) (
      .leaf (.inl ByteArray.empty)
     ) (
      .leaf (.inr (ByteArray.extract v6 (Int.toNat (5 : Int)) (Int.toNat (IntKind.i64.wrap ((5 : Int) + (IntKind.i64.wrap (bt v6 (4 : Int)))))), (spec_l02Blank_v (IntKind.i64.wrap (bt v6 (IntKind.i64.wrap ((5 : Int) + (IntKind.i64.wrap (bt v6 (4 : Int))))))) (IntKind.i64.wrap (bt v6 (IntKind.i64.wrap ((IntKind.i64.wrap ((5 : Int) + (IntKind.i64.wrap (bt v6 (4 : Int))))) + (1 : Int)))))).1, (spec_l02Blank_v (IntKind.i64.wrap (bt v6 (IntKind.i64.wrap ((5 : Int) + (IntKind.i64.wrap (bt v6 (4 : Int))))))) (IntKind.i64.wrap (bt v6 (IntKind.i64.wrap ((IntKind.i64.wrap ((5 : Int) + (IntKind.i64.wrap (bt v6 (4 : Int))))) + (1 : Int)))))).2, v19))
     )))
    )))))))))
   ))
  )))

noncomputable def spec_l07Load_g (v6 : ByteArray) : Option ((ByteArray) ⊕ (ByteArray × Int × Int × (List Nat))) := (spec_l07Load_T v6).run
def spec_l07Load_enc (v6 : ByteArray) (y : (ByteArray) ⊕ (ByteArray × Int × Int × (List Nat))) : Rs := (match y with | .inl y => (.tup [.agg [.str y, .int .i64 (0 : Int), .int .i64 (0 : Int), .nilslc], .lit false], []) | .inr y => (.tup [.agg [.str y.1, .int .i64 y.2.1, .int .i64 y.2.2.1, .own 0 0 ((y.2.2.2).length)], .lit true], [.row (.f32 y.2.2.2) 0]))
theorem spec_l07Load_den (v6 : ByteArray) : (den TT (tabD spec_l07Load_tab) (tabM spec_l07Load_tab) (spec_l07Load_LO v6) (codeOf Try.f39) ([.str v6] ++ List.replicate (Try.f39.ntmps - ([.str v6] : List DV).length) .undef) []).bind (retD TT Try.f39.results.toList 0) = (spec_l07Load_T v6).bind fun y => .leaf (spec_l07Load_enc v6 y) := by kernel_rfl
theorem spec_l07Load_fn (v6 : ByteArray) (F : Fr) (h0 : St F [] F.H0) (hA : DVs.Ok F [] [.str v6]) {y : (ByteArray) ⊕ (ByteArray × Int × Int × (List Nat))} (hy : spec_l07Load_g v6 = some y) : ∃ F' H', Fwd 0 F F' [] (spec_l07Load_enc v6 y).2 ∧ FnOk Try.prog 39 (DVs.av F [.str v6]) F.H0 ((spec_l07Load_enc v6 y).1.av F') H' ∧ St F' (spec_l07Load_enc v6 y).2 H' ∧ (spec_l07Load_enc v6 y).1.Ok F' (spec_l07Load_enc v6 y).2 :=
  fn_fin tok spec_l07Load_hO mixed Try.func39 Try.call39 (by kernel_rfl) (LoopsOk_eq (l := [(0, bodyOf Try.f39 0)]) (by kernel_rfl) ⟨spec_l07Load_l0_ok v6, trivial⟩) (spec_l07Load_den v6) hy h0 hA
noncomputable def spec_l07Load_F : DFn := fun args L =>
  match args with
  | [.str v6] =>
    .call (spec_l07Load_g v6) fun y => .sum y (fun y0 => .leaf (.tup [.agg [.str y0, .int .i64 (0 : Int), .int .i64 (0 : Int), .nilslc], .lit false], L)) (fun z0 => .leaf (.tup [.agg [.str z0.1, .int .i64 z0.2.1, .int .i64 z0.2.2.1, .own (L.length + 0) 0 ((z0.2.2.2).length)], .lit true], L ++ [.row (.f32 z0.2.2.2) 0]))
  | _ => .fail
theorem spec_l07Load_Fok : COk Try.prog 39 spec_l07Load_F true := by
  intro F L H args r L' hs ha hr
  unfold spec_l07Load_F at hr
  split at hr
  · rename_i v6
    simp only [Tree.run] at hr
    obtain ⟨y, hy, hr⟩ := Option.bind_eq_some_iff.1 hr
    cases y with
    | inl y =>
      simp only [Tree.run, Option.some.injEq, Prod.mk.injEq] at hr
      obtain ⟨rfl, rfl⟩ := hr
      exact call_ok0 hs (fun k => (([] : List AV)[k]?).getD .top) [.str v6] [.str v6] (fun F' h0 hi hρ => ⟨by simp [DVs.av, DV.av, BR.av, hρ], spec_l07Load_fn v6 F' (st_nil hi) ⟨trivial, trivial⟩ hy⟩) rfl
    | inr y =>
      simp only [Tree.run, Option.some.injEq, Prod.mk.injEq] at hr
      obtain ⟨rfl, rfl⟩ := hr
      exact call_ok1 hs (fun k => (([] : List AV)[k]?).getD .top) [.str v6] [.str v6] (fun F' h0 hi hρ => ⟨by simp [DVs.av, DV.av, BR.av, hρ], spec_l07Load_fn v6 F' (st_nil hi) ⟨trivial, trivial⟩ hy⟩) rfl rfl
  · cases hr
/-! spec.RecoverSheets -/
noncomputable def spec_RecoverSheets_l0_T (v2 : ByteArray) (s : Int × (List ByteArray) × (List Int) × (List Int) × (List (List Nat)) × (List Nat)) : Tree ((Int × (List ByteArray) × (List Int) × (List Int) × (List (List Nat)) × (List Nat)) ⊕ (Int × (List ByteArray) × (List Int) × (List Int) × (List (List Nat)) × (List Nat))) :=
  (.br (decide ((((s.2.1).length : Nat) : Int) < (8 : Int))) (
   (.grd (sok s.1 ((v2.size : Nat) : Int) v2.size) <|
   (.call (spec_l07Long_g (ByteArray.extract v2 (Int.toNat s.1) (Int.toNat ((v2.size : Nat) : Int)))) fun v95 =>
   (.br (decide (v95 = (0 : Int))) (
    .leaf (.inr (s.1, s.2.1, s.2.2.1, s.2.2.2.1, s.2.2.2.2.1, s.2.2.2.2.2))
   ) (
    (.grd (sok s.1 (IntKind.i64.wrap (s.1 + v95)) v2.size) <|
    (.call (spec_l07Load_g (ByteArray.extract v2 (Int.toNat s.1) (Int.toNat (IntKind.i64.wrap (s.1 + v95))))) fun v96 =>
    (.sum v96 (fun v97 =>
     .leaf (.inr (s.1, s.2.1, s.2.2.1, s.2.2.2.1, s.2.2.2.2.1, s.2.2.2.2.2))
    ) (fun v98 =>
     (.grd (fits (((s.2.1).length) + (1 : Nat))) <|
     .leaf (.inl (IntKind.i64.wrap (s.1 + v95), s.2.1 ++ ([v98.1] : List ByteArray), s.2.2.1 ++ ([v98.2.1] : List Int), s.2.2.2.1 ++ ([v98.2.2.1] : List Int), s.2.2.2.2.1 ++ ([v98.2.2.2] : List (List Nat)), s.2.2.2.2.2 ++ [s.2.2.2.2.1.length + 1])))
    ))))
   ))))
  ) (
   .leaf (.inr (s.1, s.2.1, s.2.2.1, s.2.2.2.1, s.2.2.2.2.1, s.2.2.2.2.2))
  ))

noncomputable def spec_RecoverSheets_l0_g (v2 : ByteArray) (s0 : Int × (List ByteArray) × (List Int) × (List Int) × (List (List Nat)) × (List Nat)) : Option (Int × (List ByteArray) × (List Int) × (List Int) × (List (List Nat)) × (List Nat)) := whileM (fun s => (spec_RecoverSheets_l0_T v2 s).run) s0
def spec_RecoverSheets_l0_E (v2 : ByteArray) (s : Int × (List ByteArray) × (List Int) × (List Int) × (List (List Nat)) × (List Nat)) : Sd := ([.str v2,tp,tp,tp,tp,.nest 0 0 4 ((s.2.1).length),.int .i64 s.1,tp,tp,tp,tp,tp,tp,tp,tp,tp,tp,tp,tp,tp,tp,tp,tp,tp,tp,tp,tp,tp,tp,tp,tp,tp,tp,tp,tp,tp,tp,tp,tp,tp,tp], [.nest [.pl (.str s.2.1), .pl (.i64 s.2.2.1), .pl (.i64 s.2.2.2.1), .sl (.f32 s.2.2.2.2.1) s.2.2.2.2.2] false 0])
def spec_RecoverSheets_l0_X (v2 : ByteArray) (x : Int × (List ByteArray) × (List Int) × (List Int) × (List (List Nat)) × (List Nat)) : Out := (.normal, [tp,tp,tp,tp,tp,.nest 0 0 4 ((x.2.1).length),.int .i64 x.1,tp,tp,tp,tp,tp,tp,tp,tp,tp,tp,tp,tp,tp,tp,tp,tp,tp,tp,tp,tp,tp,tp,tp,tp,tp,tp,tp,tp,tp,tp,tp,tp,tp,tp], [.nest [.pl (.str x.2.1), .pl (.i64 x.2.2.1), .pl (.i64 x.2.2.2.1), .sl (.f32 x.2.2.2.2.1) x.2.2.2.2.2] false 0])
def spec_RecoverSheets_l0_kill : List Nat := KL true [0,1,4,2,34]
def spec_RecoverSheets_l0_nx : Exit → List Nat
  | .exit 0 => KL true [5,2,34]
  | .ret => KL true [2,3,36]
  | _ => []
noncomputable def spec_RecoverSheets_LO (v2 : ByteArray) : LOr := fun id e L =>
  match id with
  | 0 => .need (normA 0 spec_RecoverSheets_l0_kill e L = some (spec_RecoverSheets_l0_E v2 ((gI (vAt e 6)), (gCS L (vAt e 5) 0), (gCI L (vAt e 5) 1), (gCI L (vAt e 5) 2), (gPF L (vAt e 5) 3), (gX L (vAt e 5) 3)))) (.call (spec_RecoverSheets_l0_g v2 ((gI (vAt e 6)), (gCS L (vAt e 5) 0), (gCI L (vAt e 5) 1), (gCI L (vAt e 5) 2), (gPF L (vAt e 5) 3), (gX L (vAt e 5) 3))) fun x => .leaf (spec_RecoverSheets_l0_X v2 x))
  | _ => .fail
noncomputable def spec_RecoverSheets_tab : List (FuncId × DFn × Bool) := [(49, spec_l07Long_F, true), (39, spec_l07Load_F, true)]
theorem spec_RecoverSheets_hO : OrcOk Try.prog (tabD spec_RecoverSheets_tab) (tabM spec_RecoverSheets_tab) := tabD_cons spec_l07Long_Fok (tabD_cons spec_l07Load_Fok (tabD_nil _))
theorem spec_RecoverSheets_l0_be (v2 : ByteArray) (s : Int × (List ByteArray) × (List Int) × (List Int) × (List (List Nat)) × (List Nat)) : bodyT TT (tabD spec_RecoverSheets_tab) (tabM spec_RecoverSheets_tab) (spec_RecoverSheets_LO v2) 0 spec_RecoverSheets_l0_kill spec_RecoverSheets_l0_nx (bodyOf Try.f25 0) 0 (spec_RecoverSheets_l0_E v2 s) = (spec_RecoverSheets_l0_T v2 s).bind fun y => .leaf (outS (spec_RecoverSheets_l0_E v2) (spec_RecoverSheets_l0_X v2) y) := by kernel_rfl
theorem spec_RecoverSheets_l0_ok (v2 : ByteArray) : LSound Try.prog 0 (spec_RecoverSheets_LO v2) 0 (bodyOf Try.f25 0) := by
  intro e L out h
  exact lo_ok (E := spec_RecoverSheets_l0_E v2) (gT := spec_RecoverSheets_l0_T v2) (X := spec_RecoverSheets_l0_X v2) (s0 := ((gI (vAt e 6)), (gCS L (vAt e 5) 0), (gCI L (vAt e 5) 1), (gCI L (vAt e 5) 2), (gPF L (vAt e 5) 3), (gX L (vAt e 5) 3))) tok spec_RecoverSheets_hO mixed (LoopsOk_eq (l := []) (by kernel_rfl) trivial) (spec_RecoverSheets_l0_be v2) rfl (by intro x; rfl) h
noncomputable def spec_RecoverSheets_T (v2 : ByteArray) : Tree (Int × (List ByteArray) × (List Int) × (List Int) × (List (List Nat)) × (List Nat)) :=
  (.need (some (spec_RecoverSheets_l0_E v2 ((0 : Int), ([] : List ByteArray), ([] : List Int), ([] : List Int), ([] : List (List Nat)), ([] : List Nat))) = some (spec_RecoverSheets_l0_E v2 ((0 : Int), ([] : List ByteArray), ([] : List Int), ([] : List Int), ([] : List (List Nat)), ([] : List Nat)))) <|
  (.call (spec_RecoverSheets_l0_g v2 ((0 : Int), ([] : List ByteArray), ([] : List Int), ([] : List Int), ([] : List (List Nat)), ([] : List Nat))) fun v99 =>
  .leaf (v99.1, v99.2.1, v99.2.2.1, v99.2.2.2.1, v99.2.2.2.2.1, v99.2.2.2.2.2)))

noncomputable def spec_RecoverSheets_g (v2 : ByteArray) : Option (Int × (List ByteArray) × (List Int) × (List Int) × (List (List Nat)) × (List Nat)) := (spec_RecoverSheets_T v2).run
def spec_RecoverSheets_enc (v2 : ByteArray) (y : Int × (List ByteArray) × (List Int) × (List Int) × (List (List Nat)) × (List Nat)) : Rs := (.tup [.nest 0 0 4 ((y.2.1).length), .int .i64 y.1, .lit true], [.nest [.pl (.str y.2.1), .pl (.i64 y.2.2.1), .pl (.i64 y.2.2.2.1), .sl (.f32 y.2.2.2.2.1) y.2.2.2.2.2] false 0])
theorem spec_RecoverSheets_den (v2 : ByteArray) : (den TT (tabD spec_RecoverSheets_tab) (tabM spec_RecoverSheets_tab) (spec_RecoverSheets_LO v2) (codeOf Try.f25) ([.str v2] ++ List.replicate (Try.f25.ntmps - ([.str v2] : List DV).length) .undef) []).bind (retD TT Try.f25.results.toList 0) = (spec_RecoverSheets_T v2).bind fun y => .leaf (spec_RecoverSheets_enc v2 y) := by kernel_rfl
theorem spec_RecoverSheets_fn (v2 : ByteArray) (F : Fr) (h0 : St F [] F.H0) (hA : DVs.Ok F [] [.str v2]) {y : Int × (List ByteArray) × (List Int) × (List Int) × (List (List Nat)) × (List Nat)} (hy : spec_RecoverSheets_g v2 = some y) : ∃ F' H', Fwd 0 F F' [] (spec_RecoverSheets_enc v2 y).2 ∧ FnOk Try.prog 25 (DVs.av F [.str v2]) F.H0 ((spec_RecoverSheets_enc v2 y).1.av F') H' ∧ St F' (spec_RecoverSheets_enc v2 y).2 H' ∧ (spec_RecoverSheets_enc v2 y).1.Ok F' (spec_RecoverSheets_enc v2 y).2 :=
  fn_fin tok spec_RecoverSheets_hO mixed Try.func25 Try.call25 (by kernel_rfl) (LoopsOk_eq (l := [(0, bodyOf Try.f25 0)]) (by kernel_rfl) ⟨spec_RecoverSheets_l0_ok v2, trivial⟩) (spec_RecoverSheets_den v2) hy h0 hA
noncomputable def spec_RecoverSheets_F : DFn := fun args L =>
  match args with
  | [.str v2] =>
    .call (spec_RecoverSheets_g v2) fun y => .leaf (.tup [.nest (L.length + 0) 0 4 ((y.2.1).length), .int .i64 y.1, .lit true], L ++ [.nest [.pl (.str y.2.1), .pl (.i64 y.2.2.1), .pl (.i64 y.2.2.2.1), .sl (.f32 y.2.2.2.2.1) y.2.2.2.2.2] false 0])
  | _ => .fail
theorem spec_RecoverSheets_Fok : COk Try.prog 25 spec_RecoverSheets_F true := by
  intro F L H args r L' hs ha hr
  unfold spec_RecoverSheets_F at hr
  split at hr
  · rename_i v2
    simp only [Tree.run] at hr
    obtain ⟨y, hy, hr⟩ := Option.bind_eq_some_iff.1 hr
    simp only [Tree.run, Option.some.injEq, Prod.mk.injEq] at hr
    obtain ⟨rfl, rfl⟩ := hr
    exact call_ok1 hs (fun k => (([] : List AV)[k]?).getD .top) [.str v2] [.str v2] (fun F' h0 hi hρ => ⟨by simp [DVs.av, DV.av, BR.av, hρ], spec_RecoverSheets_fn v2 F' (st_nil hi) ⟨trivial, trivial⟩ hy⟩) rfl rfl
  · cases hr
/-! impl.numberOf -/
noncomputable def impl_numberOf_l0_T (v105 : ByteArray) (s : Int × Int) : Tree ((Int × Int) ⊕ (Int)) :=
  (.br (decide ((0 : Int) ≤ s.2)) (
   (.grd (decide (0 ≤ (8 : Int))) <|
   (.grd (inb s.2 v105.size) <|
   .leaf (.inl (ior .i64 (ishl .i64 s.1 (8 : Int)) (IntKind.i64.wrap (bt v105 s.2)), IntKind.i64.wrap (s.2 - (1 : Int))))))
  ) (
   .leaf (.inr s.1)
  ))

noncomputable def impl_numberOf_l0_g (v105 : ByteArray) (s0 : Int × Int) : Option (Int) := whileM (fun s => (impl_numberOf_l0_T v105 s).run) s0
def impl_numberOf_l0_E (v105 : ByteArray) (s : Int × Int) : Sd := ([.str v105,tp,tp,.int .i64 s.1,.int .i64 s.2,tp,tp,tp,tp,tp,tp,tp,tp,tp,tp,tp,tp,tp,tp,tp], [])
def impl_numberOf_l0_X (v105 : ByteArray) (x : Int) : Out := (.normal, [tp,tp,tp,.int .i64 x,tp,tp,tp,tp,tp,tp,tp,tp,tp,tp,tp,tp,tp,tp,tp,tp], [])
def impl_numberOf_l0_kill : List Nat := KL true [0,1,2,2,15]
def impl_numberOf_l0_nx : Exit → List Nat
  | .exit 0 => KL true [3,1,16]
  | .ret => KL true [2,1,17]
  | _ => []
noncomputable def impl_numberOf_LO (v105 : ByteArray) : LOr := fun id e L =>
  match id with
  | 0 => .need (normA 0 impl_numberOf_l0_kill e L = some (impl_numberOf_l0_E v105 ((gI (vAt e 3)), (gI (vAt e 4))))) (.call (impl_numberOf_l0_g v105 ((gI (vAt e 3)), (gI (vAt e 4)))) fun x => .leaf (impl_numberOf_l0_X v105 x))
  | _ => .fail
noncomputable def impl_numberOf_tab : List (FuncId × DFn × Bool) := []
theorem impl_numberOf_hO : OrcOk Try.prog (tabD impl_numberOf_tab) (tabM impl_numberOf_tab) := tabD_nil _
theorem impl_numberOf_l0_be (v105 : ByteArray) (s : Int × Int) : bodyT TT (tabD impl_numberOf_tab) (tabM impl_numberOf_tab) (impl_numberOf_LO v105) 0 impl_numberOf_l0_kill impl_numberOf_l0_nx (bodyOf Try.f72 0) 0 (impl_numberOf_l0_E v105 s) = (impl_numberOf_l0_T v105 s).bind fun y => .leaf (outS (impl_numberOf_l0_E v105) (impl_numberOf_l0_X v105) y) := by kernel_rfl
theorem impl_numberOf_l0_ok (v105 : ByteArray) : LSound Try.prog 0 (impl_numberOf_LO v105) 0 (bodyOf Try.f72 0) := by
  intro e L out h
  exact lo_ok (E := impl_numberOf_l0_E v105) (gT := impl_numberOf_l0_T v105) (X := impl_numberOf_l0_X v105) (s0 := ((gI (vAt e 3)), (gI (vAt e 4)))) tok impl_numberOf_hO mixed (LoopsOk_eq (l := []) (by kernel_rfl) trivial) (impl_numberOf_l0_be v105) rfl (by intro x; rfl) h
noncomputable def impl_numberOf_T (v105 : ByteArray) : Tree (Int) :=
  (.need (some (impl_numberOf_l0_E v105 ((0 : Int), IntKind.i64.wrap (((v105.size : Nat) : Int) - (1 : Int)))) = some (impl_numberOf_l0_E v105 ((0 : Int), IntKind.i64.wrap (((v105.size : Nat) : Int) - (1 : Int))))) <|
  (.call (impl_numberOf_l0_g v105 ((0 : Int), IntKind.i64.wrap (((v105.size : Nat) : Int) - (1 : Int)))) fun v112 =>
  .leaf v112))

noncomputable def impl_numberOf_g (v105 : ByteArray) : Option (Int) := (impl_numberOf_T v105).run
def impl_numberOf_enc (v105 : ByteArray) (y : Int) : Rs := (.int .i64 y, [])
theorem impl_numberOf_den (v105 : ByteArray) : (den TT (tabD impl_numberOf_tab) (tabM impl_numberOf_tab) (impl_numberOf_LO v105) (codeOf Try.f72) ([.str v105] ++ List.replicate (Try.f72.ntmps - ([.str v105] : List DV).length) .undef) []).bind (retD TT Try.f72.results.toList 0) = (impl_numberOf_T v105).bind fun y => .leaf (impl_numberOf_enc v105 y) := by kernel_rfl
theorem impl_numberOf_fn (v105 : ByteArray) (F : Fr) (h0 : St F [] F.H0) (hA : DVs.Ok F [] [.str v105]) {y : Int} (hy : impl_numberOf_g v105 = some y) : ∃ F' H', Fwd 0 F F' [] (impl_numberOf_enc v105 y).2 ∧ FnOk Try.prog 72 (DVs.av F [.str v105]) F.H0 ((impl_numberOf_enc v105 y).1.av F') H' ∧ St F' (impl_numberOf_enc v105 y).2 H' ∧ (impl_numberOf_enc v105 y).1.Ok F' (impl_numberOf_enc v105 y).2 :=
  fn_fin tok impl_numberOf_hO mixed Try.func72 Try.call72 (by kernel_rfl) (LoopsOk_eq (l := [(0, bodyOf Try.f72 0)]) (by kernel_rfl) ⟨impl_numberOf_l0_ok v105, trivial⟩) (impl_numberOf_den v105) hy h0 hA
noncomputable def impl_numberOf_F : DFn := fun args L =>
  match args with
  | [.str v105] =>
    .call (impl_numberOf_g v105) fun y => .leaf (.int .i64 y, L)
  | _ => .fail
theorem impl_numberOf_Fok : COk Try.prog 72 impl_numberOf_F true := by
  intro F L H args r L' hs ha hr
  unfold impl_numberOf_F at hr
  split at hr
  · rename_i v105
    simp only [Tree.run] at hr
    obtain ⟨y, hy, hr⟩ := Option.bind_eq_some_iff.1 hr
    simp only [Tree.run, Option.some.injEq, Prod.mk.injEq] at hr
    obtain ⟨rfl, rfl⟩ := hr
    exact call_ok0 hs (fun k => (([] : List AV)[k]?).getD .top) [.str v105] [.str v105] (fun F' h0 hi hρ => ⟨by simp [DVs.av, DV.av, BR.av, hρ], impl_numberOf_fn v105 F' (st_nil hi) ⟨trivial, trivial⟩ hy⟩) rfl
  · cases hr
/-! impl.inRange -/
noncomputable def impl_inRange_LO (v139 : Int) (v140 : Int) (v141 : Int) : LOr := fun id e L =>
  match id with
  | _ => .fail
noncomputable def impl_inRange_tab : List (FuncId × DFn × Bool) := []
theorem impl_inRange_hO : OrcOk Try.prog (tabD impl_inRange_tab) (tabM impl_inRange_tab) := tabD_nil _
noncomputable def impl_inRange_T (v139 : Int) (v140 : Int) (v141 : Int) : Tree (Bool) :=
  (.br (decide (v140 ≤ v139)) (
   .leaf (decide (v139 ≤ v141))
  ) (
   .leaf false
  ))

noncomputable def impl_inRange_g (v139 : Int) (v140 : Int) (v141 : Int) : Option (Bool) := (impl_inRange_T v139 v140 v141).run
def impl_inRange_enc (v139 : Int) (v140 : Int) (v141 : Int) (y : Bool) : Rs := (.bool y, [])
theorem impl_inRange_den (v139 : Int) (v140 : Int) (v141 : Int) : (den TT (tabD impl_inRange_tab) (tabM impl_inRange_tab) (impl_inRange_LO v139 v140 v141) (codeOf Try.f78) ([.int .i64 v139, .int .i64 v140, .int .i64 v141] ++ List.replicate (Try.f78.ntmps - ([.int .i64 v139, .int .i64 v140, .int .i64 v141] : List DV).length) .undef) []).bind (retD TT Try.f78.results.toList 0) = (impl_inRange_T v139 v140 v141).bind fun y => .leaf (impl_inRange_enc v139 v140 v141 y) := by kernel_rfl
theorem impl_inRange_fn (v139 : Int) (v140 : Int) (v141 : Int) (F : Fr) (h0 : St F [] F.H0) (hA : DVs.Ok F [] [.int .i64 v139, .int .i64 v140, .int .i64 v141]) {y : Bool} (hy : impl_inRange_g v139 v140 v141 = some y) : ∃ F' H', Fwd 0 F F' [] (impl_inRange_enc v139 v140 v141 y).2 ∧ FnOk Try.prog 78 (DVs.av F [.int .i64 v139, .int .i64 v140, .int .i64 v141]) F.H0 ((impl_inRange_enc v139 v140 v141 y).1.av F') H' ∧ St F' (impl_inRange_enc v139 v140 v141 y).2 H' ∧ (impl_inRange_enc v139 v140 v141 y).1.Ok F' (impl_inRange_enc v139 v140 v141 y).2 :=
  fn_fin tok impl_inRange_hO mixed Try.func78 Try.call78 (by kernel_rfl) (LoopsOk_eq (l := []) (by kernel_rfl) trivial) (impl_inRange_den v139 v140 v141) hy h0 hA
def impl_inRange_v (v139 : Int) (v140 : Int) (v141 : Int) : Bool :=
  if (decide (v140 ≤ v139)) = true then (
   decide (v139 ≤ v141)
  ) else (
   false
  )
theorem impl_inRange_tot (v139 : Int) (v140 : Int) (v141 : Int) : impl_inRange_g v139 v140 v141 = some (impl_inRange_v v139 v140 v141) := by
  unfold impl_inRange_g impl_inRange_T impl_inRange_v
  simp only [Tree.run]
  repeat' (first | rfl | split)
noncomputable def impl_inRange_F : DFn := fun args L =>
  match args with
  | [.int .i64 v139, .int .i64 v140, .int .i64 v141] =>
    .leaf (.bool (impl_inRange_v v139 v140 v141), L)
  | _ => .fail
theorem impl_inRange_Fok : COk Try.prog 78 impl_inRange_F true := by
  intro F L H args r L' hs ha hr
  unfold impl_inRange_F at hr
  split at hr
  · rename_i v139 v140 v141
    have hy := impl_inRange_tot v139 v140 v141
    generalize impl_inRange_v v139 v140 v141 = y at hy hr
    simp only [Tree.run, Option.some.injEq, Prod.mk.injEq] at hr
    obtain ⟨rfl, rfl⟩ := hr
    exact call_ok0 hs (fun k => (([] : List AV)[k]?).getD .top) [.int .i64 v139, .int .i64 v140, .int .i64 v141] [.int .i64 v139, .int .i64 v140, .int .i64 v141] (fun F' h0 hi hρ => ⟨by simp [DVs.av, DV.av, BR.av, hρ], impl_inRange_fn v139 v140 v141 F' (st_nil hi) ⟨trivial, trivial, trivial, trivial⟩ hy⟩) rfl
  · cases hr
/-! impl.IsName -/
noncomputable def impl_IsName_l0_T (v132 : ByteArray) (s : Int) : Tree ((Int) ⊕ ((Unit) ⊕ (Unit))) :=
  (.br (decide (s < ((v132.size : Nat) : Int))) (
   (.grd (inb s v132.size) <|
   (.br (decide (bt v132 s < (97 : Int))) (
    .leaf (.inr (.inl ()))
   ) (
    (.grd (inb s v132.size) <|
    (.br (decide ((122 : Int) < bt v132 s)) (
     .leaf (.inr (.inl ()))
    ) (
     .leaf (.inl (IntKind.i64.wrap (s + (1 : Int))))
    )))
   )))
  ) (
   .leaf (.inr (.inr ()))
  ))

noncomputable def impl_IsName_l0_g (v132 : ByteArray) (s0 : Int) : Option ((Unit) ⊕ (Unit)) := whileM (fun s => (impl_IsName_l0_T v132 s).run) s0
def impl_IsName_l0_E (v132 : ByteArray) (s : Int) : Sd := ([.str v132,tp,tp,tp,tp,.int .i64 ((v132.size : Nat) : Int),.int .i64 s,tp,tp,tp,tp,tp,tp,tp,tp,tp,tp,tp,tp,tp,tp,tp,tp], [])
def impl_IsName_l0_X (v132 : ByteArray) (x : (Unit) ⊕ (Unit)) : Out := (match x with | .inl x => (.ret, [tp,tp,.lit false,tp,tp,tp,tp,tp,tp,tp,tp,tp,tp,tp,tp,tp,tp,tp,tp,tp,tp,tp,tp], []) | .inr x => (.normal, [.str v132,tp,tp,tp,tp,tp,tp,tp,tp,tp,tp,tp,tp,tp,tp,tp,tp,tp,tp,tp,tp,tp,tp], []))
def impl_IsName_l0_kill : List Nat := KL true [0,1,4,2,16]
def impl_IsName_l0_nx : Exit → List Nat
  | .exit 0 => KL true [0,1,22]
  | .ret => KL true [2,1,20]
  | _ => []
noncomputable def impl_IsName_LO (v132 : ByteArray) : LOr := fun id e L =>
  match id with
  | 0 => .need (normA 0 impl_IsName_l0_kill e L = some (impl_IsName_l0_E v132 (gI (vAt e 6)))) (.call (impl_IsName_l0_g v132 (gI (vAt e 6))) fun x => .sum x (fun b0 => .leaf (impl_IsName_l0_X v132 (.inl b0))) (fun c0 => .leaf (impl_IsName_l0_X v132 (.inr c0))))
  | _ => .fail
noncomputable def impl_IsName_tab : List (FuncId × DFn × Bool) := [(78, impl_inRange_F, true)]
theorem impl_IsName_hO : OrcOk Try.prog (tabD impl_IsName_tab) (tabM impl_IsName_tab) := tabD_cons impl_inRange_Fok (tabD_nil _)
theorem impl_IsName_l0_be (v132 : ByteArray) (s : Int) : bodyT TT (tabD impl_IsName_tab) (tabM impl_IsName_tab) (impl_IsName_LO v132) 0 impl_IsName_l0_kill impl_IsName_l0_nx (bodyOf Try.f57 0) 0 (impl_IsName_l0_E v132 s) = (impl_IsName_l0_T v132 s).bind fun y => .leaf (outS (impl_IsName_l0_E v132) (impl_IsName_l0_X v132) y) := by kernel_rfl
theorem impl_IsName_l0_ok (v132 : ByteArray) : LSound Try.prog 0 (impl_IsName_LO v132) 0 (bodyOf Try.f57 0) := by
  intro e L out h
  exact lo_ok (E := impl_IsName_l0_E v132) (gT := impl_IsName_l0_T v132) (X := impl_IsName_l0_X v132) (s0 := (gI (vAt e 6))) tok impl_IsName_hO mixed (LoopsOk_eq (l := []) (by kernel_rfl) trivial) (impl_IsName_l0_be v132) rfl (by intro x; (cases x with | inl b => rfl | inr x => exact rfl)) h
noncomputable def impl_IsName_T (v132 : ByteArray) : Tree (Bool) :=
  (.need (some (impl_IsName_l0_E v132 (0 : Int)) = some (impl_IsName_l0_E v132 (0 : Int))) <|
  (.call (impl_IsName_l0_g v132 (0 : Int)) fun v136 =>
  (.sum v136 (fun v137 =>
   .leaf false
  ) (fun v138 =>
   .leaf (impl_inRange_v ((v132.size : Nat) : Int) (1 : Int) (8 : Int))
  ))))

noncomputable def impl_IsName_g (v132 : ByteArray) : Option (Bool) := (impl_IsName_T v132).run
def impl_IsName_enc (v132 : ByteArray) (y : Bool) : Rs := (.bool y, [])
theorem impl_IsName_den (v132 : ByteArray) : (den TT (tabD impl_IsName_tab) (tabM impl_IsName_tab) (impl_IsName_LO v132) (codeOf Try.f57) ([.str v132] ++ List.replicate (Try.f57.ntmps - ([.str v132] : List DV).length) .undef) []).bind (retD TT Try.f57.results.toList 0) = (impl_IsName_T v132).bind fun y => .leaf (impl_IsName_enc v132 y) := by kernel_rfl
theorem impl_IsName_fn (v132 : ByteArray) (F : Fr) (h0 : St F [] F.H0) (hA : DVs.Ok F [] [.str v132]) {y : Bool} (hy : impl_IsName_g v132 = some y) : ∃ F' H', Fwd 0 F F' [] (impl_IsName_enc v132 y).2 ∧ FnOk Try.prog 57 (DVs.av F [.str v132]) F.H0 ((impl_IsName_enc v132 y).1.av F') H' ∧ St F' (impl_IsName_enc v132 y).2 H' ∧ (impl_IsName_enc v132 y).1.Ok F' (impl_IsName_enc v132 y).2 :=
  fn_fin tok impl_IsName_hO mixed Try.func57 Try.call57 (by kernel_rfl) (LoopsOk_eq (l := [(0, bodyOf Try.f57 0)]) (by kernel_rfl) ⟨impl_IsName_l0_ok v132, trivial⟩) (impl_IsName_den v132) hy h0 hA
noncomputable def impl_IsName_F : DFn := fun args L =>
  match args with
  | [.str v132] =>
    .call (impl_IsName_g v132) fun y => .leaf (.bool y, L)
  | _ => .fail
theorem impl_IsName_Fok : COk Try.prog 57 impl_IsName_F true := by
  intro F L H args r L' hs ha hr
  unfold impl_IsName_F at hr
  split at hr
  · rename_i v132
    simp only [Tree.run] at hr
    obtain ⟨y, hy, hr⟩ := Option.bind_eq_some_iff.1 hr
    simp only [Tree.run, Option.some.injEq, Prod.mk.injEq] at hr
    obtain ⟨rfl, rfl⟩ := hr
    exact call_ok0 hs (fun k => (([] : List AV)[k]?).getD .top) [.str v132] [.str v132] (fun F' h0 hi hρ => ⟨by simp [DVs.av, DV.av, BR.av, hρ], impl_IsName_fn v132 F' (st_nil hi) ⟨trivial, trivial⟩ hy⟩) rfl
  · cases hr
/-! impl.isSide -/
noncomputable def impl_isSide_LO (v146 : Int) : LOr := fun id e L =>
  match id with
  | _ => .fail
noncomputable def impl_isSide_tab : List (FuncId × DFn × Bool) := [(78, impl_inRange_F, true)]
theorem impl_isSide_hO : OrcOk Try.prog (tabD impl_isSide_tab) (tabM impl_isSide_tab) := tabD_cons impl_inRange_Fok (tabD_nil _)
noncomputable def impl_isSide_T (v146 : Int) : Tree (Bool) :=
  .leaf (impl_inRange_v v146 (1 : Int) (12 : Int))

noncomputable def impl_isSide_g (v146 : Int) : Option (Bool) := (impl_isSide_T v146).run
def impl_isSide_enc (v146 : Int) (y : Bool) : Rs := (.bool y, [])
theorem impl_isSide_den (v146 : Int) : (den TT (tabD impl_isSide_tab) (tabM impl_isSide_tab) (impl_isSide_LO v146) (codeOf Try.f79) ([.int .i64 v146] ++ List.replicate (Try.f79.ntmps - ([.int .i64 v146] : List DV).length) .undef) []).bind (retD TT Try.f79.results.toList 0) = (impl_isSide_T v146).bind fun y => .leaf (impl_isSide_enc v146 y) := by kernel_rfl
theorem impl_isSide_fn (v146 : Int) (F : Fr) (h0 : St F [] F.H0) (hA : DVs.Ok F [] [.int .i64 v146]) {y : Bool} (hy : impl_isSide_g v146 = some y) : ∃ F' H', Fwd 0 F F' [] (impl_isSide_enc v146 y).2 ∧ FnOk Try.prog 79 (DVs.av F [.int .i64 v146]) F.H0 ((impl_isSide_enc v146 y).1.av F') H' ∧ St F' (impl_isSide_enc v146 y).2 H' ∧ (impl_isSide_enc v146 y).1.Ok F' (impl_isSide_enc v146 y).2 :=
  fn_fin tok impl_isSide_hO mixed Try.func79 Try.call79 (by kernel_rfl) (LoopsOk_eq (l := []) (by kernel_rfl) trivial) (impl_isSide_den v146) hy h0 hA
def impl_isSide_v (v146 : Int) : Bool :=
  (impl_inRange_v v146 (1 : Int) (12 : Int))
theorem impl_isSide_tot (v146 : Int) : impl_isSide_g v146 = some (impl_isSide_v v146) := by
  unfold impl_isSide_g impl_isSide_T impl_isSide_v
  simp only [Tree.run]
  repeat' (first | rfl | split)
noncomputable def impl_isSide_F : DFn := fun args L =>
  match args with
  | [.int .i64 v146] =>
    .leaf (.bool (impl_isSide_v v146), L)
  | _ => .fail
theorem impl_isSide_Fok : COk Try.prog 79 impl_isSide_F true := by
  intro F L H args r L' hs ha hr
  unfold impl_isSide_F at hr
  split at hr
  · rename_i v146
    have hy := impl_isSide_tot v146
    generalize impl_isSide_v v146 = y at hy hr
    simp only [Tree.run, Option.some.injEq, Prod.mk.injEq] at hr
    obtain ⟨rfl, rfl⟩ := hr
    exact call_ok0 hs (fun k => (([] : List AV)[k]?).getD .top) [.int .i64 v146] [.int .i64 v146] (fun F' h0 hi hρ => ⟨by simp [DVs.av, DV.av, BR.av, hρ], impl_isSide_fn v146 F' (st_nil hi) ⟨trivial, trivial⟩ hy⟩) rfl
  · cases hr
/-! impl.length[float32] -/
noncomputable def impl_lengthF_LO (v147 : List Nat) : LOr := fun id e L =>
  match id with
  | _ => .fail
noncomputable def impl_lengthF_tab : List (FuncId × DFn × Bool) := []
theorem impl_lengthF_hO : OrcOk Try.prog (tabD impl_lengthF_tab) (tabM impl_lengthF_tab) := tabD_nil _
noncomputable def impl_lengthF_T (v147 : List Nat) : Tree (Int) :=
  .leaf ((v147.length : Nat) : Int)

noncomputable def impl_lengthF_g (v147 : List Nat) : Option (Int) := (impl_lengthF_T v147).run
def impl_lengthF_enc (v147 : List Nat) (y : Int) : Rs := (.int .i64 y, [])
theorem impl_lengthF_den (v147 : List Nat) : (den TT (tabD impl_lengthF_tab) (tabM impl_lengthF_tab) (impl_lengthF_LO v147) (codeOf Try.f80) ([.bslc (BR.root 0) (.f32 v147)] ++ List.replicate (Try.f80.ntmps - ([.bslc (BR.root 0) (.f32 v147)] : List DV).length) .undef) []).bind (retD TT Try.f80.results.toList 0) = (impl_lengthF_T v147).bind fun y => .leaf (impl_lengthF_enc v147 y) := by kernel_rfl
theorem impl_lengthF_fn (v147 : List Nat) (F : Fr) (h0 : St F [] F.H0) (hA : DVs.Ok F [] [.bslc (BR.root 0) (.f32 v147)]) {y : Int} (hy : impl_lengthF_g v147 = some y) : ∃ F' H', Fwd 0 F F' [] (impl_lengthF_enc v147 y).2 ∧ FnOk Try.prog 80 (DVs.av F [.bslc (BR.root 0) (.f32 v147)]) F.H0 ((impl_lengthF_enc v147 y).1.av F') H' ∧ St F' (impl_lengthF_enc v147 y).2 H' ∧ (impl_lengthF_enc v147 y).1.Ok F' (impl_lengthF_enc v147 y).2 :=
  fn_fin tok impl_lengthF_hO mixed Try.func80 Try.call80 (by kernel_rfl) (LoopsOk_eq (l := []) (by kernel_rfl) trivial) (impl_lengthF_den v147) hy h0 hA
def impl_lengthF_v (v147 : List Nat) : Int :=
  ((v147.length : Nat) : Int)
theorem impl_lengthF_tot (v147 : List Nat) : impl_lengthF_g v147 = some (impl_lengthF_v v147) := by
  unfold impl_lengthF_g impl_lengthF_T impl_lengthF_v
  simp only [Tree.run]
  repeat' (first | rfl | split)
noncomputable def impl_lengthF_F : DFn := fun args L =>
  match args with
  | [a1] =>
    optT (rowF32 L a1) fun v147 =>
    .leaf (.int .i64 (impl_lengthF_v v147), L)
  | _ => .fail
theorem impl_lengthF_Fok : COk Try.prog 80 impl_lengthF_F true := by
  intro F L H args r L' hs ha hr
  unfold impl_lengthF_F at hr
  split at hr
  · rename_i a1
    obtain ⟨v147, hv147, hr⟩ := optT_run hr
    have hy := impl_lengthF_tot v147
    generalize impl_lengthF_v v147 = y at hy hr
    simp only [Tree.run, Option.some.injEq, Prod.mk.injEq] at hr
    obtain ⟨rfl, rfl⟩ := hr
    exact call_ok0 hs (fun k => (([a1.av F] : List AV)[k]?).getD .top) [a1] [.bslc (BR.root 0) (.f32 v147)] (fun F' h0 hi hρ => ⟨by simp [DVs.av, DV.av, BR.av, hρ], impl_lengthF_fn v147 F' (st_nil hi) ⟨bslc_ok hi (by rw [h0, hρ]; exact rowF32_ok hs (DVs.okAt ha 0 rfl) hv147), trivial⟩ hy⟩) rfl
  · cases hr
/-! math.IsNaN -/
noncomputable def math_IsNaN_LO (v155 : Nat) : LOr := fun id e L =>
  match id with
  | _ => .fail
noncomputable def math_IsNaN_tab : List (FuncId × DFn × Bool) := []
theorem math_IsNaN_hO : OrcOk Try.prog (tabD math_IsNaN_tab) (tabM math_IsNaN_tab) := tabD_nil _
noncomputable def math_IsNaN_T (v155 : Nat) : Tree (Bool) :=
  .leaf (!feq .f64 v155 v155)

noncomputable def math_IsNaN_g (v155 : Nat) : Option (Bool) := (math_IsNaN_T v155).run
def math_IsNaN_enc (v155 : Nat) (y : Bool) : Rs := (.bool y, [])
theorem math_IsNaN_den (v155 : Nat) : (den TT (tabD math_IsNaN_tab) (tabM math_IsNaN_tab) (math_IsNaN_LO v155) (codeOf Try.f98) ([.flt .f64 v155] ++ List.replicate (Try.f98.ntmps - ([.flt .f64 v155] : List DV).length) .undef) []).bind (retD TT Try.f98.results.toList 0) = (math_IsNaN_T v155).bind fun y => .leaf (math_IsNaN_enc v155 y) := by kernel_rfl
theorem math_IsNaN_fn (v155 : Nat) (F : Fr) (h0 : St F [] F.H0) (hA : DVs.Ok F [] [.flt .f64 v155]) {y : Bool} (hy : math_IsNaN_g v155 = some y) : ∃ F' H', Fwd 0 F F' [] (math_IsNaN_enc v155 y).2 ∧ FnOk Try.prog 98 (DVs.av F [.flt .f64 v155]) F.H0 ((math_IsNaN_enc v155 y).1.av F') H' ∧ St F' (math_IsNaN_enc v155 y).2 H' ∧ (math_IsNaN_enc v155 y).1.Ok F' (math_IsNaN_enc v155 y).2 :=
  fn_fin tok math_IsNaN_hO mixed Try.func98 Try.call98 (by kernel_rfl) (LoopsOk_eq (l := []) (by kernel_rfl) trivial) (math_IsNaN_den v155) hy h0 hA
def math_IsNaN_v (v155 : Nat) : Bool :=
  !feq .f64 v155 v155
theorem math_IsNaN_tot (v155 : Nat) : math_IsNaN_g v155 = some (math_IsNaN_v v155) := by
  unfold math_IsNaN_g math_IsNaN_T math_IsNaN_v
  simp only [Tree.run]
  repeat' (first | rfl | split)
noncomputable def math_IsNaN_F : DFn := fun args L =>
  match args with
  | [.flt .f64 v155] =>
    .leaf (.bool (math_IsNaN_v v155), L)
  | _ => .fail
theorem math_IsNaN_Fok : COk Try.prog 98 math_IsNaN_F true := by
  intro F L H args r L' hs ha hr
  unfold math_IsNaN_F at hr
  split at hr
  · rename_i v155
    have hy := math_IsNaN_tot v155
    generalize math_IsNaN_v v155 = y at hy hr
    simp only [Tree.run, Option.some.injEq, Prod.mk.injEq] at hr
    obtain ⟨rfl, rfl⟩ := hr
    exact call_ok0 hs (fun k => (([] : List AV)[k]?).getD .top) [.flt .f64 v155] [.flt .f64 v155] (fun F' h0 hi hρ => ⟨by simp [DVs.av, DV.av, BR.av, hρ], math_IsNaN_fn v155 F' (st_nil hi) ⟨trivial, trivial⟩ hy⟩) rfl
  · cases hr
/-! math.IsInf -/
noncomputable def math_IsInf_LO (v156 : Nat) (v157 : Int) : LOr := fun id e L =>
  match id with
  | _ => .fail
noncomputable def math_IsInf_tab : List (FuncId × DFn × Bool) := [(100, Abs_F, true)]
theorem math_IsInf_hO : OrcOk Try.prog (tabD math_IsInf_tab) (tabM math_IsInf_tab) := tabD_cons Abs_Fok (tabD_nil _)
noncomputable def math_IsInf_T (v156 : Nat) (v157 : Int) : Tree (Bool) :=
  (.br (decide (v157 = (0 : Int))) (
   .leaf (fgrt .f64 (fabs v156) (9218868437227405311 : Nat))
  ) (
   (.br (decide (v157 < (0 : Int))) (
    .leaf (fgrt .f64 (fneg .f64 v156) (9218868437227405311 : Nat))
   ) (
    .leaf (fgrt .f64 v156 (9218868437227405311 : Nat))
   ))
  ))

noncomputable def math_IsInf_g (v156 : Nat) (v157 : Int) : Option (Bool) := (math_IsInf_T v156 v157).run
def math_IsInf_enc (v156 : Nat) (v157 : Int) (y : Bool) : Rs := (.bool y, [])
theorem math_IsInf_den (v156 : Nat) (v157 : Int) : (den TT (tabD math_IsInf_tab) (tabM math_IsInf_tab) (math_IsInf_LO v156 v157) (codeOf Try.f99) ([.flt .f64 v156, .int .i64 v157] ++ List.replicate (Try.f99.ntmps - ([.flt .f64 v156, .int .i64 v157] : List DV).length) .undef) []).bind (retD TT Try.f99.results.toList 0) = (math_IsInf_T v156 v157).bind fun y => .leaf (math_IsInf_enc v156 v157 y) := by kernel_rfl
theorem math_IsInf_fn (v156 : Nat) (v157 : Int) (F : Fr) (h0 : St F [] F.H0) (hA : DVs.Ok F [] [.flt .f64 v156, .int .i64 v157]) {y : Bool} (hy : math_IsInf_g v156 v157 = some y) : ∃ F' H', Fwd 0 F F' [] (math_IsInf_enc v156 v157 y).2 ∧ FnOk Try.prog 99 (DVs.av F [.flt .f64 v156, .int .i64 v157]) F.H0 ((math_IsInf_enc v156 v157 y).1.av F') H' ∧ St F' (math_IsInf_enc v156 v157 y).2 H' ∧ (math_IsInf_enc v156 v157 y).1.Ok F' (math_IsInf_enc v156 v157 y).2 :=
  fn_fin tok math_IsInf_hO mixed Try.func99 Try.call99 (by kernel_rfl) (LoopsOk_eq (l := []) (by kernel_rfl) trivial) (math_IsInf_den v156 v157) hy h0 hA
def math_IsInf_v (v156 : Nat) (v157 : Int) : Bool :=
  if (decide (v157 = (0 : Int))) = true then (
   fgrt .f64 (fabs v156) (9218868437227405311 : Nat)
  ) else (
   if (decide (v157 < (0 : Int))) = true then (
    fgrt .f64 (fneg .f64 v156) (9218868437227405311 : Nat)
   ) else (
    fgrt .f64 v156 (9218868437227405311 : Nat)
   )
  )
theorem math_IsInf_tot (v156 : Nat) (v157 : Int) : math_IsInf_g v156 v157 = some (math_IsInf_v v156 v157) := by
  unfold math_IsInf_g math_IsInf_T math_IsInf_v
  simp only [Tree.run]
  repeat' (first | rfl | split)
noncomputable def math_IsInf_F : DFn := fun args L =>
  match args with
  | [.flt .f64 v156, .int .i64 v157] =>
    .leaf (.bool (math_IsInf_v v156 v157), L)
  | _ => .fail
theorem math_IsInf_Fok : COk Try.prog 99 math_IsInf_F true := by
  intro F L H args r L' hs ha hr
  unfold math_IsInf_F at hr
  split at hr
  · rename_i v156 v157
    have hy := math_IsInf_tot v156 v157
    generalize math_IsInf_v v156 v157 = y at hy hr
    simp only [Tree.run, Option.some.injEq, Prod.mk.injEq] at hr
    obtain ⟨rfl, rfl⟩ := hr
    exact call_ok0 hs (fun k => (([] : List AV)[k]?).getD .top) [.flt .f64 v156, .int .i64 v157] [.flt .f64 v156, .int .i64 v157] (fun F' h0 hi hρ => ⟨by simp [DVs.av, DV.av, BR.av, hρ], math_IsInf_fn v156 v157 F' (st_nil hi) ⟨trivial, trivial, trivial⟩ hy⟩) rfl
  · cases hr
/-! impl.isFinite64 -/
noncomputable def impl_isFinite64_LO (v154 : Nat) : LOr := fun id e L =>
  match id with
  | _ => .fail
noncomputable def impl_isFinite64_tab : List (FuncId × DFn × Bool) := [(98, math_IsNaN_F, true), (99, math_IsInf_F, true)]
theorem impl_isFinite64_hO : OrcOk Try.prog (tabD impl_isFinite64_tab) (tabM impl_isFinite64_tab) := tabD_cons math_IsNaN_Fok (tabD_cons math_IsInf_Fok (tabD_nil _))
noncomputable def impl_isFinite64_T (v154 : Nat) : Tree (Bool) :=
  (.br (!(math_IsNaN_v v154)) (
   .leaf (!(math_IsInf_v v154 (0 : Int)))
  ) (
   .leaf false
  ))

noncomputable def impl_isFinite64_g (v154 : Nat) : Option (Bool) := (impl_isFinite64_T v154).run
def impl_isFinite64_enc (v154 : Nat) (y : Bool) : Rs := (.bool y, [])
theorem impl_isFinite64_den (v154 : Nat) : (den TT (tabD impl_isFinite64_tab) (tabM impl_isFinite64_tab) (impl_isFinite64_LO v154) (codeOf Try.f96) ([.flt .f64 v154] ++ List.replicate (Try.f96.ntmps - ([.flt .f64 v154] : List DV).length) .undef) []).bind (retD TT Try.f96.results.toList 0) = (impl_isFinite64_T v154).bind fun y => .leaf (impl_isFinite64_enc v154 y) := by kernel_rfl
theorem impl_isFinite64_fn (v154 : Nat) (F : Fr) (h0 : St F [] F.H0) (hA : DVs.Ok F [] [.flt .f64 v154]) {y : Bool} (hy : impl_isFinite64_g v154 = some y) : ∃ F' H', Fwd 0 F F' [] (impl_isFinite64_enc v154 y).2 ∧ FnOk Try.prog 96 (DVs.av F [.flt .f64 v154]) F.H0 ((impl_isFinite64_enc v154 y).1.av F') H' ∧ St F' (impl_isFinite64_enc v154 y).2 H' ∧ (impl_isFinite64_enc v154 y).1.Ok F' (impl_isFinite64_enc v154 y).2 :=
  fn_fin tok impl_isFinite64_hO mixed Try.func96 Try.call96 (by kernel_rfl) (LoopsOk_eq (l := []) (by kernel_rfl) trivial) (impl_isFinite64_den v154) hy h0 hA
def impl_isFinite64_v (v154 : Nat) : Bool :=
  if (!(math_IsNaN_v v154)) = true then (
   !(math_IsInf_v v154 (0 : Int))
  ) else (
   false
  )
theorem impl_isFinite64_tot (v154 : Nat) : impl_isFinite64_g v154 = some (impl_isFinite64_v v154) := by
  unfold impl_isFinite64_g impl_isFinite64_T impl_isFinite64_v
  simp only [Tree.run]
  repeat' (first | rfl | split)
noncomputable def impl_isFinite64_F : DFn := fun args L =>
  match args with
  | [.flt .f64 v154] =>
    .leaf (.bool (impl_isFinite64_v v154), L)
  | _ => .fail
theorem impl_isFinite64_Fok : COk Try.prog 96 impl_isFinite64_F true := by
  intro F L H args r L' hs ha hr
  unfold impl_isFinite64_F at hr
  split at hr
  · rename_i v154
    have hy := impl_isFinite64_tot v154
    generalize impl_isFinite64_v v154 = y at hy hr
    simp only [Tree.run, Option.some.injEq, Prod.mk.injEq] at hr
    obtain ⟨rfl, rfl⟩ := hr
    exact call_ok0 hs (fun k => (([] : List AV)[k]?).getD .top) [.flt .f64 v154] [.flt .f64 v154] (fun F' h0 hi hρ => ⟨by simp [DVs.av, DV.av, BR.av, hρ], impl_isFinite64_fn v154 F' (st_nil hi) ⟨trivial, trivial⟩ hy⟩) rfl
  · cases hr
/-! impl.IsFinite -/
noncomputable def impl_IsFinite_LO (v153 : Nat) : LOr := fun id e L =>
  match id with
  | _ => .fail
noncomputable def impl_IsFinite_tab : List (FuncId × DFn × Bool) := [(96, impl_isFinite64_F, true)]
theorem impl_IsFinite_hO : OrcOk Try.prog (tabD impl_IsFinite_tab) (tabM impl_IsFinite_tab) := tabD_cons impl_isFinite64_Fok (tabD_nil _)
noncomputable def impl_IsFinite_T (v153 : Nat) : Tree (Bool) :=
  .leaf (impl_isFinite64_v (wid v153))

noncomputable def impl_IsFinite_g (v153 : Nat) : Option (Bool) := (impl_IsFinite_T v153).run
def impl_IsFinite_enc (v153 : Nat) (y : Bool) : Rs := (.bool y, [])
theorem impl_IsFinite_den (v153 : Nat) : (den TT (tabD impl_IsFinite_tab) (tabM impl_IsFinite_tab) (impl_IsFinite_LO v153) (codeOf Try.f91) ([.flt .f32 v153] ++ List.replicate (Try.f91.ntmps - ([.flt .f32 v153] : List DV).length) .undef) []).bind (retD TT Try.f91.results.toList 0) = (impl_IsFinite_T v153).bind fun y => .leaf (impl_IsFinite_enc v153 y) := by kernel_rfl
theorem impl_IsFinite_fn (v153 : Nat) (F : Fr) (h0 : St F [] F.H0) (hA : DVs.Ok F [] [.flt .f32 v153]) {y : Bool} (hy : impl_IsFinite_g v153 = some y) : ∃ F' H', Fwd 0 F F' [] (impl_IsFinite_enc v153 y).2 ∧ FnOk Try.prog 91 (DVs.av F [.flt .f32 v153]) F.H0 ((impl_IsFinite_enc v153 y).1.av F') H' ∧ St F' (impl_IsFinite_enc v153 y).2 H' ∧ (impl_IsFinite_enc v153 y).1.Ok F' (impl_IsFinite_enc v153 y).2 :=
  fn_fin tok impl_IsFinite_hO mixed Try.func91 Try.call91 (by kernel_rfl) (LoopsOk_eq (l := []) (by kernel_rfl) trivial) (impl_IsFinite_den v153) hy h0 hA
def impl_IsFinite_v (v153 : Nat) : Bool :=
  (impl_isFinite64_v (wid v153))
theorem impl_IsFinite_tot (v153 : Nat) : impl_IsFinite_g v153 = some (impl_IsFinite_v v153) := by
  unfold impl_IsFinite_g impl_IsFinite_T impl_IsFinite_v
  simp only [Tree.run]
  repeat' (first | rfl | split)
noncomputable def impl_IsFinite_F : DFn := fun args L =>
  match args with
  | [.flt .f32 v153] =>
    .leaf (.bool (impl_IsFinite_v v153), L)
  | _ => .fail
theorem impl_IsFinite_Fok : COk Try.prog 91 impl_IsFinite_F true := by
  intro F L H args r L' hs ha hr
  unfold impl_IsFinite_F at hr
  split at hr
  · rename_i v153
    have hy := impl_IsFinite_tot v153
    generalize impl_IsFinite_v v153 = y at hy hr
    simp only [Tree.run, Option.some.injEq, Prod.mk.injEq] at hr
    obtain ⟨rfl, rfl⟩ := hr
    exact call_ok0 hs (fun k => (([] : List AV)[k]?).getD .top) [.flt .f32 v153] [.flt .f32 v153] (fun F' h0 hi hρ => ⟨by simp [DVs.av, DV.av, BR.av, hρ], impl_IsFinite_fn v153 F' (st_nil hi) ⟨trivial, trivial⟩ hy⟩) rfl
  · cases hr
/-! impl.areFinite$1 -/
noncomputable def impl_areFinite_1_LO (v152 : Nat) : LOr := fun id e L =>
  match id with
  | _ => .fail
noncomputable def impl_areFinite_1_tab : List (FuncId × DFn × Bool) := [(91, impl_IsFinite_F, true)]
theorem impl_areFinite_1_hO : OrcOk Try.prog (tabD impl_areFinite_1_tab) (tabM impl_areFinite_1_tab) := tabD_cons impl_IsFinite_Fok (tabD_nil _)
noncomputable def impl_areFinite_1_T (v152 : Nat) : Tree (Bool) :=
  .leaf (!(impl_IsFinite_v v152))

noncomputable def impl_areFinite_1_g (v152 : Nat) : Option (Bool) := (impl_areFinite_1_T v152).run
def impl_areFinite_1_enc (v152 : Nat) (y : Bool) : Rs := (.bool y, [])
theorem impl_areFinite_1_den (v152 : Nat) : (den TT (tabD impl_areFinite_1_tab) (tabM impl_areFinite_1_tab) (impl_areFinite_1_LO v152) (codeOf Try.f90) ([.flt .f32 v152] ++ List.replicate (Try.f90.ntmps - ([.flt .f32 v152] : List DV).length) .undef) []).bind (retD TT Try.f90.results.toList 0) = (impl_areFinite_1_T v152).bind fun y => .leaf (impl_areFinite_1_enc v152 y) := by kernel_rfl
theorem impl_areFinite_1_fn (v152 : Nat) (F : Fr) (h0 : St F [] F.H0) (hA : DVs.Ok F [] [.flt .f32 v152]) {y : Bool} (hy : impl_areFinite_1_g v152 = some y) : ∃ F' H', Fwd 0 F F' [] (impl_areFinite_1_enc v152 y).2 ∧ FnOk Try.prog 90 (DVs.av F [.flt .f32 v152]) F.H0 ((impl_areFinite_1_enc v152 y).1.av F') H' ∧ St F' (impl_areFinite_1_enc v152 y).2 H' ∧ (impl_areFinite_1_enc v152 y).1.Ok F' (impl_areFinite_1_enc v152 y).2 :=
  fn_fin tok impl_areFinite_1_hO mixed Try.func90 Try.call90 (by kernel_rfl) (LoopsOk_eq (l := []) (by kernel_rfl) trivial) (impl_areFinite_1_den v152) hy h0 hA
def impl_areFinite_1_v (v152 : Nat) : Bool :=
  !(impl_IsFinite_v v152)
theorem impl_areFinite_1_tot (v152 : Nat) : impl_areFinite_1_g v152 = some (impl_areFinite_1_v v152) := by
  unfold impl_areFinite_1_g impl_areFinite_1_T impl_areFinite_1_v
  simp only [Tree.run]
  repeat' (first | rfl | split)
noncomputable def impl_areFinite_1_F : DFn := fun args L =>
  match args with
  | [.flt .f32 v152] =>
    .leaf (.bool (impl_areFinite_1_v v152), L)
  | _ => .fail
theorem impl_areFinite_1_Fok : COk Try.prog 90 impl_areFinite_1_F true := by
  intro F L H args r L' hs ha hr
  unfold impl_areFinite_1_F at hr
  split at hr
  · rename_i v152
    have hy := impl_areFinite_1_tot v152
    generalize impl_areFinite_1_v v152 = y at hy hr
    simp only [Tree.run, Option.some.injEq, Prod.mk.injEq] at hr
    obtain ⟨rfl, rfl⟩ := hr
    exact call_ok0 hs (fun k => (([] : List AV)[k]?).getD .top) [.flt .f32 v152] [.flt .f32 v152] (fun F' h0 hi hρ => ⟨by simp [DVs.av, DV.av, BR.av, hρ], impl_areFinite_1_fn v152 F' (st_nil hi) ⟨trivial, trivial⟩ hy⟩) rfl
  · cases hr
/-! slices.IndexFunc[list of float32,float32] -/
noncomputable def slices_IndexFuncF_l0_T (v150 : List Nat) (s : Int) : Tree ((Int) ⊕ ((Int) ⊕ (Unit))) :=
  (.br (decide (s < ((v150.length : Nat) : Int))) (
   (.grd (inb s v150.length) <|
   (.br (impl_areFinite_1_v (nth v150 (Int.toNat s))) (
    .leaf (.inr (.inl s))
   ) (
    .leaf (.inl (IntKind.i64.wrap (s + (1 : Int))))
   )))
  ) (
   .leaf (.inr (.inr ()))
  ))

noncomputable def slices_IndexFuncF_l0_g (v150 : List Nat) (s0 : Int) : Option ((Int) ⊕ (Unit)) := whileM (fun s => (slices_IndexFuncF_l0_T v150 s).run) s0
def slices_IndexFuncF_l0_E (v150 : List Nat) (s : Int) : Sd := ([.bslc (BR.root 0) (.f32 v150),.fn 90 [],tp,tp,tp,tp,tp,.int .i64 ((v150.length : Nat) : Int),.int .i64 s,tp,tp,tp,tp,tp,tp,tp,tp,tp,tp], [])
def slices_IndexFuncF_l0_X (v150 : List Nat) (x : (Int) ⊕ (Unit)) : Out := (match x with | .inl x => (.ret, [tp,tp,tp,tp,.int .i64 x,tp,tp,tp,tp,tp,tp,tp,tp,tp,tp,tp,tp,tp,tp], []) | .inr x => (.normal, [tp,tp,tp,tp,tp,tp,tp,tp,tp,tp,tp,tp,tp,tp,tp,tp,tp,tp,tp], []))
def slices_IndexFuncF_l0_kill : List Nat := KL true [0,2,5,2,10]
def slices_IndexFuncF_l0_nx : Exit → List Nat
  | .exit 0 => KL true [19]
  | .ret => KL true [4,1,14]
  | _ => []
noncomputable def slices_IndexFuncF_LO (v150 : List Nat) : LOr := fun id e L =>
  match id with
  | 0 => .need (normA 0 slices_IndexFuncF_l0_kill e L = some (slices_IndexFuncF_l0_E v150 (gI (vAt e 8)))) (.call (slices_IndexFuncF_l0_g v150 (gI (vAt e 8))) fun x => .sum x (fun b0 => .leaf (slices_IndexFuncF_l0_X v150 (.inl b0))) (fun c0 => .leaf (slices_IndexFuncF_l0_X v150 (.inr c0))))
  | _ => .fail
noncomputable def slices_IndexFuncF_tab : List (FuncId × DFn × Bool) := [(90, impl_areFinite_1_F, true)]
theorem slices_IndexFuncF_hO : OrcOk Try.prog (tabD slices_IndexFuncF_tab) (tabM slices_IndexFuncF_tab) := tabD_cons impl_areFinite_1_Fok (tabD_nil _)
theorem slices_IndexFuncF_l0_be (v150 : List Nat) (s : Int) : bodyT TT (tabD slices_IndexFuncF_tab) (tabM slices_IndexFuncF_tab) (slices_IndexFuncF_LO v150) 0 slices_IndexFuncF_l0_kill slices_IndexFuncF_l0_nx (bodyOf Try.f95 0) 0 (slices_IndexFuncF_l0_E v150 s) = (slices_IndexFuncF_l0_T v150 s).bind fun y => .leaf (outS (slices_IndexFuncF_l0_E v150) (slices_IndexFuncF_l0_X v150) y) := by kernel_rfl
theorem slices_IndexFuncF_l0_ok (v150 : List Nat) : LSound Try.prog 0 (slices_IndexFuncF_LO v150) 0 (bodyOf Try.f95 0) := by
  intro e L out h
  exact lo_ok (E := slices_IndexFuncF_l0_E v150) (gT := slices_IndexFuncF_l0_T v150) (X := slices_IndexFuncF_l0_X v150) (s0 := (gI (vAt e 8))) tok slices_IndexFuncF_hO mixed (LoopsOk_eq (l := []) (by kernel_rfl) trivial) (slices_IndexFuncF_l0_be v150) rfl (by intro x; (cases x with | inl b => rfl | inr x => exact rfl)) h
noncomputable def slices_IndexFuncF_T (v150 : List Nat) : Tree (Int) :=
  (.need (some (slices_IndexFuncF_l0_E v150 (0 : Int)) = some (slices_IndexFuncF_l0_E v150 (0 : Int))) <|
  (.call (slices_IndexFuncF_l0_g v150 (0 : Int)) fun v160 =>
  (.sum v160 (fun v161 =>
   .leaf v161
  ) (fun v162 =>
   .leaf (-1 : Int)
  ))))

noncomputable def slices_IndexFuncF_g (v150 : List Nat) : Option (Int) := (slices_IndexFuncF_T v150).run
def slices_IndexFuncF_enc (v150 : List Nat) (y : Int) : Rs := (.int .i64 y, [])
theorem slices_IndexFuncF_den (v150 : List Nat) : (den TT (tabD slices_IndexFuncF_tab) (tabM slices_IndexFuncF_tab) (slices_IndexFuncF_LO v150) (codeOf Try.f95) ([.bslc (BR.root 0) (.f32 v150), .fn 90 []] ++ List.replicate (Try.f95.ntmps - ([.bslc (BR.root 0) (.f32 v150), .fn 90 []] : List DV).length) .undef) []).bind (retD TT Try.f95.results.toList 0) = (slices_IndexFuncF_T v150).bind fun y => .leaf (slices_IndexFuncF_enc v150 y) := by kernel_rfl
theorem slices_IndexFuncF_fn (v150 : List Nat) (F : Fr) (h0 : St F [] F.H0) (hA : DVs.Ok F [] [.bslc (BR.root 0) (.f32 v150), .fn 90 []]) {y : Int} (hy : slices_IndexFuncF_g v150 = some y) : ∃ F' H', Fwd 0 F F' [] (slices_IndexFuncF_enc v150 y).2 ∧ FnOk Try.prog 95 (DVs.av F [.bslc (BR.root 0) (.f32 v150), .fn 90 []]) F.H0 ((slices_IndexFuncF_enc v150 y).1.av F') H' ∧ St F' (slices_IndexFuncF_enc v150 y).2 H' ∧ (slices_IndexFuncF_enc v150 y).1.Ok F' (slices_IndexFuncF_enc v150 y).2 :=
  fn_fin tok slices_IndexFuncF_hO mixed Try.func95 Try.call95 (by kernel_rfl) (LoopsOk_eq (l := [(0, bodyOf Try.f95 0)]) (by kernel_rfl) ⟨slices_IndexFuncF_l0_ok v150, trivial⟩) (slices_IndexFuncF_den v150) hy h0 hA
noncomputable def slices_IndexFuncF_F : DFn := fun args L =>
  match args with
  | [a1, .fn 90 []] =>
    optT (rowF32 L a1) fun v150 =>
    .call (slices_IndexFuncF_g v150) fun y => .leaf (.int .i64 y, L)
  | _ => .fail
theorem slices_IndexFuncF_Fok : COk Try.prog 95 slices_IndexFuncF_F true := by
  intro F L H args r L' hs ha hr
  unfold slices_IndexFuncF_F at hr
  split at hr
  · rename_i a1
    obtain ⟨v150, hv150, hr⟩ := optT_run hr
    simp only [Tree.run] at hr
    obtain ⟨y, hy, hr⟩ := Option.bind_eq_some_iff.1 hr
    simp only [Tree.run, Option.some.injEq, Prod.mk.injEq] at hr
    obtain ⟨rfl, rfl⟩ := hr
    exact call_ok0 hs (fun k => (([a1.av F] : List AV)[k]?).getD .top) [a1, .fn 90 []] [.bslc (BR.root 0) (.f32 v150), .fn 90 []] (fun F' h0 hi hρ => ⟨by simp [DVs.av, DV.av, BR.av, hρ], slices_IndexFuncF_fn v150 F' (st_nil hi) ⟨bslc_ok hi (by rw [h0, hρ]; exact rowF32_ok hs (DVs.okAt ha 0 rfl) hv150), trivial, trivial⟩ hy⟩) rfl
  · cases hr
/-! slices.ContainsFunc[list of float32,float32] -/
noncomputable def slices_ContainsFuncF_LO (v149 : List Nat) : LOr := fun id e L =>
  match id with
  | _ => .fail
noncomputable def slices_ContainsFuncF_tab : List (FuncId × DFn × Bool) := [(95, slices_IndexFuncF_F, true)]
theorem slices_ContainsFuncF_hO : OrcOk Try.prog (tabD slices_ContainsFuncF_tab) (tabM slices_ContainsFuncF_tab) := tabD_cons slices_IndexFuncF_Fok (tabD_nil _)
noncomputable def slices_ContainsFuncF_T (v149 : List Nat) : Tree (Bool) :=
  (.call (slices_IndexFuncF_g v149) fun v163 =>
  .leaf (decide ((0 : Int) ≤ v163)))

noncomputable def slices_ContainsFuncF_g (v149 : List Nat) : Option (Bool) := (slices_ContainsFuncF_T v149).run
def slices_ContainsFuncF_enc (v149 : List Nat) (y : Bool) : Rs := (.bool y, [])
theorem slices_ContainsFuncF_den (v149 : List Nat) : (den TT (tabD slices_ContainsFuncF_tab) (tabM slices_ContainsFuncF_tab) (slices_ContainsFuncF_LO v149) (codeOf Try.f89) ([.bslc (BR.root 0) (.f32 v149), .fn 90 []] ++ List.replicate (Try.f89.ntmps - ([.bslc (BR.root 0) (.f32 v149), .fn 90 []] : List DV).length) .undef) []).bind (retD TT Try.f89.results.toList 0) = (slices_ContainsFuncF_T v149).bind fun y => .leaf (slices_ContainsFuncF_enc v149 y) := by kernel_rfl
theorem slices_ContainsFuncF_fn (v149 : List Nat) (F : Fr) (h0 : St F [] F.H0) (hA : DVs.Ok F [] [.bslc (BR.root 0) (.f32 v149), .fn 90 []]) {y : Bool} (hy : slices_ContainsFuncF_g v149 = some y) : ∃ F' H', Fwd 0 F F' [] (slices_ContainsFuncF_enc v149 y).2 ∧ FnOk Try.prog 89 (DVs.av F [.bslc (BR.root 0) (.f32 v149), .fn 90 []]) F.H0 ((slices_ContainsFuncF_enc v149 y).1.av F') H' ∧ St F' (slices_ContainsFuncF_enc v149 y).2 H' ∧ (slices_ContainsFuncF_enc v149 y).1.Ok F' (slices_ContainsFuncF_enc v149 y).2 :=
  fn_fin tok slices_ContainsFuncF_hO mixed Try.func89 Try.call89 (by kernel_rfl) (LoopsOk_eq (l := []) (by kernel_rfl) trivial) (slices_ContainsFuncF_den v149) hy h0 hA
noncomputable def slices_ContainsFuncF_F : DFn := fun args L =>
  match args with
  | [a1, .fn 90 []] =>
    optT (rowF32 L a1) fun v149 =>
    .call (slices_ContainsFuncF_g v149) fun y => .leaf (.bool y, L)
  | _ => .fail
theorem slices_ContainsFuncF_Fok : COk Try.prog 89 slices_ContainsFuncF_F true := by
  intro F L H args r L' hs ha hr
  unfold slices_ContainsFuncF_F at hr
  split at hr
  · rename_i a1
    obtain ⟨v149, hv149, hr⟩ := optT_run hr
    simp only [Tree.run] at hr
    obtain ⟨y, hy, hr⟩ := Option.bind_eq_some_iff.1 hr
    simp only [Tree.run, Option.some.injEq, Prod.mk.injEq] at hr
    obtain ⟨rfl, rfl⟩ := hr
    exact call_ok0 hs (fun k => (([a1.av F] : List AV)[k]?).getD .top) [a1, .fn 90 []] [.bslc (BR.root 0) (.f32 v149), .fn 90 []] (fun F' h0 hi hρ => ⟨by simp [DVs.av, DV.av, BR.av, hρ], slices_ContainsFuncF_fn v149 F' (st_nil hi) ⟨bslc_ok hi (by rw [h0, hρ]; exact rowF32_ok hs (DVs.okAt ha 0 rfl) hv149), trivial, trivial⟩ hy⟩) rfl
  · cases hr
/-! impl.areFinite -/
noncomputable def impl_areFinite_LO (v148 : List Nat) : LOr := fun id e L =>
  match id with
  | _ => .fail
noncomputable def impl_areFinite_tab : List (FuncId × DFn × Bool) := [(89, slices_ContainsFuncF_F, true)]
theorem impl_areFinite_hO : OrcOk Try.prog (tabD impl_areFinite_tab) (tabM impl_areFinite_tab) := tabD_cons slices_ContainsFuncF_Fok (tabD_nil _)
noncomputable def impl_areFinite_T (v148 : List Nat) : Tree (Bool) :=
  (.call (slices_ContainsFuncF_g v148) fun v164 =>
  .leaf (!v164))

noncomputable def impl_areFinite_g (v148 : List Nat) : Option (Bool) := (impl_areFinite_T v148).run
def impl_areFinite_enc (v148 : List Nat) (y : Bool) : Rs := (.bool y, [])
theorem impl_areFinite_den (v148 : List Nat) : (den TT (tabD impl_areFinite_tab) (tabM impl_areFinite_tab) (impl_areFinite_LO v148) (codeOf Try.f81) ([.bslc (BR.root 0) (.f32 v148)] ++ List.replicate (Try.f81.ntmps - ([.bslc (BR.root 0) (.f32 v148)] : List DV).length) .undef) []).bind (retD TT Try.f81.results.toList 0) = (impl_areFinite_T v148).bind fun y => .leaf (impl_areFinite_enc v148 y) := by kernel_rfl
theorem impl_areFinite_fn (v148 : List Nat) (F : Fr) (h0 : St F [] F.H0) (hA : DVs.Ok F [] [.bslc (BR.root 0) (.f32 v148)]) {y : Bool} (hy : impl_areFinite_g v148 = some y) : ∃ F' H', Fwd 0 F F' [] (impl_areFinite_enc v148 y).2 ∧ FnOk Try.prog 81 (DVs.av F [.bslc (BR.root 0) (.f32 v148)]) F.H0 ((impl_areFinite_enc v148 y).1.av F') H' ∧ St F' (impl_areFinite_enc v148 y).2 H' ∧ (impl_areFinite_enc v148 y).1.Ok F' (impl_areFinite_enc v148 y).2 :=
  fn_fin tok impl_areFinite_hO mixed Try.func81 Try.call81 (by kernel_rfl) (LoopsOk_eq (l := []) (by kernel_rfl) trivial) (impl_areFinite_den v148) hy h0 hA
noncomputable def impl_areFinite_F : DFn := fun args L =>
  match args with
  | [a1] =>
    optT (rowF32 L a1) fun v148 =>
    .call (impl_areFinite_g v148) fun y => .leaf (.bool y, L)
  | _ => .fail
theorem impl_areFinite_Fok : COk Try.prog 81 impl_areFinite_F true := by
  intro F L H args r L' hs ha hr
  unfold impl_areFinite_F at hr
  split at hr
  · rename_i a1
    obtain ⟨v148, hv148, hr⟩ := optT_run hr
    simp only [Tree.run] at hr
    obtain ⟨y, hy, hr⟩ := Option.bind_eq_some_iff.1 hr
    simp only [Tree.run, Option.some.injEq, Prod.mk.injEq] at hr
    obtain ⟨rfl, rfl⟩ := hr
    exact call_ok0 hs (fun k => (([a1.av F] : List AV)[k]?).getD .top) [a1] [.bslc (BR.root 0) (.f32 v148)] (fun F' h0 hi hρ => ⟨by simp [DVs.av, DV.av, BR.av, hρ], impl_areFinite_fn v148 F' (st_nil hi) ⟨bslc_ok hi (by rw [h0, hρ]; exact rowF32_ok hs (DVs.okAt ha 0 rfl) hv148), trivial⟩ hy⟩) rfl
  · cases hr
/-! impl.ValidMatrix -/
noncomputable def impl_ValidMatrix_LO (v143 : Int) (v144 : Int) (v145 : List Nat) : LOr := fun id e L =>
  match id with
  | _ => .fail
noncomputable def impl_ValidMatrix_tab : List (FuncId × DFn × Bool) := [(79, impl_isSide_F, true), (80, impl_lengthF_F, true), (81, impl_areFinite_F, true)]
theorem impl_ValidMatrix_hO : OrcOk Try.prog (tabD impl_ValidMatrix_tab) (tabM impl_ValidMatrix_tab) := tabD_cons impl_isSide_Fok (tabD_cons impl_lengthF_Fok (tabD_cons impl_areFinite_Fok (tabD_nil _)))
noncomputable def impl_ValidMatrix_T (v143 : Int) (v144 : Int) (v145 : List Nat) : Tree (Bool) :=
  (.br (impl_isSide_v v143) (
   (.br (impl_isSide_v v144) (
    (.br (decide ((impl_lengthF_v v145) = IntKind.i64.wrap (v143 * v144))) (
     (.call (impl_areFinite_g v145) fun v165 =>
     .leaf v165)
    ) (
     .leaf false
    ))
   ) (
    .leaf false
   ))
  ) (
   .leaf false
  ))

noncomputable def impl_ValidMatrix_g (v143 : Int) (v144 : Int) (v145 : List Nat) : Option (Bool) := (impl_ValidMatrix_T v143 v144 v145).run
def impl_ValidMatrix_enc (v143 : Int) (v144 : Int) (v145 : List Nat) (y : Bool) : Rs := (.bool y, [])
theorem impl_ValidMatrix_den (v143 : Int) (v144 : Int) (v145 : List Nat) : (den TT (tabD impl_ValidMatrix_tab) (tabM impl_ValidMatrix_tab) (impl_ValidMatrix_LO v143 v144 v145) (codeOf Try.f58) ([.agg [.int .i64 v143, .int .i64 v144, .bslc (BR.root 0) (.f32 v145)]] ++ List.replicate (Try.f58.ntmps - ([.agg [.int .i64 v143, .int .i64 v144, .bslc (BR.root 0) (.f32 v145)]] : List DV).length) .undef) []).bind (retD TT Try.f58.results.toList 0) = (impl_ValidMatrix_T v143 v144 v145).bind fun y => .leaf (impl_ValidMatrix_enc v143 v144 v145 y) := by kernel_rfl
theorem impl_ValidMatrix_fn (v143 : Int) (v144 : Int) (v145 : List Nat) (F : Fr) (h0 : St F [] F.H0) (hA : DVs.Ok F [] [.agg [.int .i64 v143, .int .i64 v144, .bslc (BR.root 0) (.f32 v145)]]) {y : Bool} (hy : impl_ValidMatrix_g v143 v144 v145 = some y) : ∃ F' H', Fwd 0 F F' [] (impl_ValidMatrix_enc v143 v144 v145 y).2 ∧ FnOk Try.prog 58 (DVs.av F [.agg [.int .i64 v143, .int .i64 v144, .bslc (BR.root 0) (.f32 v145)]]) F.H0 ((impl_ValidMatrix_enc v143 v144 v145 y).1.av F') H' ∧ St F' (impl_ValidMatrix_enc v143 v144 v145 y).2 H' ∧ (impl_ValidMatrix_enc v143 v144 v145 y).1.Ok F' (impl_ValidMatrix_enc v143 v144 v145 y).2 :=
  fn_fin tok impl_ValidMatrix_hO mixed Try.func58 Try.call58 (by kernel_rfl) (LoopsOk_eq (l := []) (by kernel_rfl) trivial) (impl_ValidMatrix_den v143 v144 v145) hy h0 hA
noncomputable def impl_ValidMatrix_F : DFn := fun args L =>
  match args with
  | [.agg [.int .i64 v143, .int .i64 v144, a1]] =>
    optT (rowF32 L a1) fun v145 =>
    .call (impl_ValidMatrix_g v143 v144 v145) fun y => .leaf (.bool y, L)
  | _ => .fail
theorem impl_ValidMatrix_Fok : COk Try.prog 58 impl_ValidMatrix_F true := by
  intro F L H args r L' hs ha hr
  unfold impl_ValidMatrix_F at hr
  split at hr
  · rename_i v143 v144 a1
    obtain ⟨v145, hv145, hr⟩ := optT_run hr
    simp only [Tree.run] at hr
    obtain ⟨y, hy, hr⟩ := Option.bind_eq_some_iff.1 hr
    simp only [Tree.run, Option.some.injEq, Prod.mk.injEq] at hr
    obtain ⟨rfl, rfl⟩ := hr
    exact call_ok0 hs (fun k => (([a1.av F] : List AV)[k]?).getD .top) [.agg [.int .i64 v143, .int .i64 v144, a1]] [.agg [.int .i64 v143, .int .i64 v144, .bslc (BR.root 0) (.f32 v145)]] (fun F' h0 hi hρ => ⟨by simp [DVs.av, DV.av, BR.av, hρ], impl_ValidMatrix_fn v143 v144 v145 F' (st_nil hi) ⟨⟨trivial, trivial, bslc_ok hi (by rw [h0, hρ]; exact rowF32_ok hs (DVs.okAt (DVs.okAt ha 0 rfl) 2 rfl) hv145), trivial⟩, trivial⟩ hy⟩) rfl
  · cases hr
/-! impl.ValidSheet -/
noncomputable def impl_ValidSheet_LO (v128 : ByteArray) (v129 : Int) (v130 : Int) (v131 : List Nat) : LOr := fun id e L =>
  match id with
  | _ => .fail
noncomputable def impl_ValidSheet_tab : List (FuncId × DFn × Bool) := [(57, impl_IsName_F, true), (58, impl_ValidMatrix_F, true)]
theorem impl_ValidSheet_hO : OrcOk Try.prog (tabD impl_ValidSheet_tab) (tabM impl_ValidSheet_tab) := tabD_cons impl_IsName_Fok (tabD_cons impl_ValidMatrix_Fok (tabD_nil _))
noncomputable def impl_ValidSheet_T (v128 : ByteArray) (v129 : Int) (v130 : Int) (v131 : List Nat) : Tree (Bool) :=
  (.call (impl_IsName_g v128) fun v142 =>
  (.br v142 (
   (.call (impl_ValidMatrix_g v129 v130 v131) fun v166 =>
   .leaf v166)
  ) (
   .leaf false
  )))

noncomputable def impl_ValidSheet_g (v128 : ByteArray) (v129 : Int) (v130 : Int) (v131 : List Nat) : Option (Bool) := (impl_ValidSheet_T v128 v129 v130 v131).run
def impl_ValidSheet_enc (v128 : ByteArray) (v129 : Int) (v130 : Int) (v131 : List Nat) (y : Bool) : Rs := (.bool y, [])
theorem impl_ValidSheet_den (v128 : ByteArray) (v129 : Int) (v130 : Int) (v131 : List Nat) : (den TT (tabD impl_ValidSheet_tab) (tabM impl_ValidSheet_tab) (impl_ValidSheet_LO v128 v129 v130 v131) (codeOf Try.f31) ([.agg [.str v128, .int .i64 v129, .int .i64 v130, .bslc (BR.root 0) (.f32 v131)]] ++ List.replicate (Try.f31.ntmps - ([.agg [.str v128, .int .i64 v129, .int .i64 v130, .bslc (BR.root 0) (.f32 v131)]] : List DV).length) .undef) []).bind (retD TT Try.f31.results.toList 0) = (impl_ValidSheet_T v128 v129 v130 v131).bind fun y => .leaf (impl_ValidSheet_enc v128 v129 v130 v131 y) := by kernel_rfl
theorem impl_ValidSheet_fn (v128 : ByteArray) (v129 : Int) (v130 : Int) (v131 : List Nat) (F : Fr) (h0 : St F [] F.H0) (hA : DVs.Ok F [] [.agg [.str v128, .int .i64 v129, .int .i64 v130, .bslc (BR.root 0) (.f32 v131)]]) {y : Bool} (hy : impl_ValidSheet_g v128 v129 v130 v131 = some y) : ∃ F' H', Fwd 0 F F' [] (impl_ValidSheet_enc v128 v129 v130 v131 y).2 ∧ FnOk Try.prog 31 (DVs.av F [.agg [.str v128, .int .i64 v129, .int .i64 v130, .bslc (BR.root 0) (.f32 v131)]]) F.H0 ((impl_ValidSheet_enc v128 v129 v130 v131 y).1.av F') H' ∧ St F' (impl_ValidSheet_enc v128 v129 v130 v131 y).2 H' ∧ (impl_ValidSheet_enc v128 v129 v130 v131 y).1.Ok F' (impl_ValidSheet_enc v128 v129 v130 v131 y).2 :=
  fn_fin tok impl_ValidSheet_hO mixed Try.func31 Try.call31 (by kernel_rfl) (LoopsOk_eq (l := []) (by kernel_rfl) trivial) (impl_ValidSheet_den v128 v129 v130 v131) hy h0 hA
noncomputable def impl_ValidSheet_F : DFn := fun args L =>
  match args with
  | [.agg [.str v128, .int .i64 v129, .int .i64 v130, a1]] =>
    optT (rowF32 L a1) fun v131 =>
    .call (impl_ValidSheet_g v128 v129 v130 v131) fun y => .leaf (.bool y, L)
  | _ => .fail
theorem impl_ValidSheet_Fok : COk Try.prog 31 impl_ValidSheet_F true := by
  intro F L H args r L' hs ha hr
  unfold impl_ValidSheet_F at hr
  split at hr
  · rename_i v128 v129 v130 a1
    obtain ⟨v131, hv131, hr⟩ := optT_run hr
    simp only [Tree.run] at hr
    obtain ⟨y, hy, hr⟩ := Option.bind_eq_some_iff.1 hr
    simp only [Tree.run, Option.some.injEq, Prod.mk.injEq] at hr
    obtain ⟨rfl, rfl⟩ := hr
    exact call_ok0 hs (fun k => (([a1.av F] : List AV)[k]?).getD .top) [.agg [.str v128, .int .i64 v129, .int .i64 v130, a1]] [.agg [.str v128, .int .i64 v129, .int .i64 v130, .bslc (BR.root 0) (.f32 v131)]] (fun F' h0 hi hρ => ⟨by simp [DVs.av, DV.av, BR.av, hρ], impl_ValidSheet_fn v128 v129 v130 v131 F' (st_nil hi) ⟨⟨trivial, trivial, trivial, bslc_ok hi (by rw [h0, hρ]; exact rowF32_ok hs (DVs.okAt (DVs.okAt ha 0 rfl) 3 rfl) hv131), trivial⟩, trivial⟩ hy⟩) rfl
  · cases hr
/-! impl.BitsOf -/
noncomputable def impl_BitsOf_LO (v173 : Nat) : LOr := fun id e L =>
  match id with
  | _ => .fail
noncomputable def impl_BitsOf_tab : List (FuncId × DFn × Bool) := [(84, Bits32_F, true)]
theorem impl_BitsOf_hO : OrcOk Try.prog (tabD impl_BitsOf_tab) (tabM impl_BitsOf_tab) := tabD_cons Bits32_Fok (tabD_nil _)
noncomputable def impl_BitsOf_T (v173 : Nat) : Tree (Int) :=
  (.br (!feq .f32 v173 v173) (
   .leaf (2143289344 : Int)
  ) (
   (.grd (!isNan .f32 v173) <|
   .leaf (IntKind.i64.wrap (((v173 : Nat) : Int))))
  ))

noncomputable def impl_BitsOf_g (v173 : Nat) : Option (Int) := (impl_BitsOf_T v173).run
def impl_BitsOf_enc (v173 : Nat) (y : Int) : Rs := (.int .i64 y, [])
theorem impl_BitsOf_den (v173 : Nat) : (den TT (tabD impl_BitsOf_tab) (tabM impl_BitsOf_tab) (impl_BitsOf_LO v173) (codeOf Try.f66) ([.flt .f32 v173] ++ List.replicate (Try.f66.ntmps - ([.flt .f32 v173] : List DV).length) .undef) []).bind (retD TT Try.f66.results.toList 0) = (impl_BitsOf_T v173).bind fun y => .leaf (impl_BitsOf_enc v173 y) := by kernel_rfl
theorem impl_BitsOf_fn (v173 : Nat) (F : Fr) (h0 : St F [] F.H0) (hA : DVs.Ok F [] [.flt .f32 v173]) {y : Int} (hy : impl_BitsOf_g v173 = some y) : ∃ F' H', Fwd 0 F F' [] (impl_BitsOf_enc v173 y).2 ∧ FnOk Try.prog 66 (DVs.av F [.flt .f32 v173]) F.H0 ((impl_BitsOf_enc v173 y).1.av F') H' ∧ St F' (impl_BitsOf_enc v173 y).2 H' ∧ (impl_BitsOf_enc v173 y).1.Ok F' (impl_BitsOf_enc v173 y).2 :=
  fn_fin tok impl_BitsOf_hO mixed Try.func66 Try.call66 (by kernel_rfl) (LoopsOk_eq (l := []) (by kernel_rfl) trivial) (impl_BitsOf_den v173) hy h0 hA
noncomputable def impl_BitsOf_F : DFn := fun args L =>
  match args with
  | [.flt .f32 v173] =>
    .call (impl_BitsOf_g v173) fun y => .leaf (.int .i64 y, L)
  | _ => .fail
theorem impl_BitsOf_Fok : COk Try.prog 66 impl_BitsOf_F true := by
  intro F L H args r L' hs ha hr
  unfold impl_BitsOf_F at hr
  split at hr
  · rename_i v173
    simp only [Tree.run] at hr
    obtain ⟨y, hy, hr⟩ := Option.bind_eq_some_iff.1 hr
    simp only [Tree.run, Option.some.injEq, Prod.mk.injEq] at hr
    obtain ⟨rfl, rfl⟩ := hr
    exact call_ok0 hs (fun k => (([] : List AV)[k]?).getD .top) [.flt .f32 v173] [.flt .f32 v173] (fun F' h0 hi hρ => ⟨by simp [DVs.av, DV.av, BR.av, hρ], impl_BitsOf_fn v173 F' (st_nil hi) ⟨trivial, trivial⟩ hy⟩) rfl
  · cases hr
/-! impl.bytesOf -/
noncomputable def impl_bytesOf_l0_T (v176 : Int) (s : Int × Int × (List Int)) : Tree ((Int × Int × (List Int)) ⊕ ((List Int))) :=
  (.br (decide (s.2.1 < v176)) (
   (.grd (fits (s.2.2 ++ ([IntKind.u8.wrap (s.1)] : List Int)).length) <|
   (.grd (decide (0 ≤ (8 : Int))) <|
   .leaf (.inl (ishr .i64 s.1 (8 : Int), IntKind.i64.wrap (s.2.1 + (1 : Int)), s.2.2 ++ ([IntKind.u8.wrap (s.1)] : List Int)))))
  ) (
   .leaf (.inr s.2.2)
  ))

noncomputable def impl_bytesOf_l0_g (v176 : Int) (s0 : Int × Int × (List Int)) : Option ((List Int)) := whileM (fun s => (impl_bytesOf_l0_T v176 s).run) s0
def impl_bytesOf_l0_E (v175 : Int) (v176 : Int) (s : Int × Int × (List Int)) : Sd := ([.int .i64 s.1,tp,tp,tp,tp,.own 0 0 ((s.2.2).length),tp,.int .i64 v176,.int .i64 s.2.1,tp,tp,tp,tp,tp,tp,tp,tp,tp,tp], [.row (.u8 s.2.2) 0])
def impl_bytesOf_l0_X (v175 : Int) (v176 : Int) (x : (List Int)) : Out := (.normal, [tp,tp,tp,tp,tp,.own 0 0 ((x).length),tp,tp,tp,tp,tp,tp,tp,tp,tp,tp,tp,tp,tp], [.row (.u8 x) 0])
def impl_bytesOf_l0_kill : List Nat := KL true [0,1,4,1,1,2,10]
def impl_bytesOf_l0_nx : Exit → List Nat
  | .exit 0 => KL true [5,1,13]
  | .ret => KL true [4,1,14]
  | _ => []
noncomputable def impl_bytesOf_LO (v175 : Int) (v176 : Int) : LOr := fun id e L =>
  match id with
  | 0 => .need (normA 0 impl_bytesOf_l0_kill e L = some (impl_bytesOf_l0_E v175 v176 ((gI (vAt e 0)), (gI (vAt e 8)), (gRI L (vAt e 5))))) (.call (impl_bytesOf_l0_g v176 ((gI (vAt e 0)), (gI (vAt e 8)), (gRI L (vAt e 5)))) fun x => .leaf (impl_bytesOf_l0_X v175 v176 x))
  | _ => .fail
noncomputable def impl_bytesOf_tab : List (FuncId × DFn × Bool) := []
theorem impl_bytesOf_hO : OrcOk Try.prog (tabD impl_bytesOf_tab) (tabM impl_bytesOf_tab) := tabD_nil _
theorem impl_bytesOf_l0_be (v175 : Int) (v176 : Int) (s : Int × Int × (List Int)) : bodyT TT (tabD impl_bytesOf_tab) (tabM impl_bytesOf_tab) (impl_bytesOf_LO v175 v176) 0 impl_bytesOf_l0_kill impl_bytesOf_l0_nx (bodyOf Try.f65 0) 0 (impl_bytesOf_l0_E v175 v176 s) = (impl_bytesOf_l0_T v176 s).bind fun y => .leaf (outS (impl_bytesOf_l0_E v175 v176) (impl_bytesOf_l0_X v175 v176) y) := by kernel_rfl
theorem impl_bytesOf_l0_ok (v175 : Int) (v176 : Int) : LSound Try.prog 0 (impl_bytesOf_LO v175 v176) 0 (bodyOf Try.f65 0) := by
  intro e L out h
  exact lo_ok (E := impl_bytesOf_l0_E v175 v176) (gT := impl_bytesOf_l0_T v176) (X := impl_bytesOf_l0_X v175 v176) (s0 := ((gI (vAt e 0)), (gI (vAt e 8)), (gRI L (vAt e 5)))) tok impl_bytesOf_hO mixed (LoopsOk_eq (l := []) (by kernel_rfl) trivial) (impl_bytesOf_l0_be v175 v176) rfl (by intro x; rfl) h
noncomputable def impl_bytesOf_T (v175 : Int) (v176 : Int) : Tree ((List Int)) :=
  (.need (some (impl_bytesOf_l0_E v175 v176 (v175, (0 : Int), ([] : List Int))) = some (impl_bytesOf_l0_E v175 v176 (v175, (0 : Int), ([] : List Int)))) <|
  (.call (impl_bytesOf_l0_g v176 (v175, (0 : Int), ([] : List Int))) fun v185 =>
  .leaf v185))

noncomputable def impl_bytesOf_g (v175 : Int) (v176 : Int) : Option ((List Int)) := (impl_bytesOf_T v175 v176).run
def impl_bytesOf_enc (v175 : Int) (v176 : Int) (y : (List Int)) : Rs := (.own 0 0 ((y).length), [.row (.u8 y) 0])
theorem impl_bytesOf_den (v175 : Int) (v176 : Int) : (den TT (tabD impl_bytesOf_tab) (tabM impl_bytesOf_tab) (impl_bytesOf_LO v175 v176) (codeOf Try.f65) ([.int .i64 v175, .int .i64 v176] ++ List.replicate (Try.f65.ntmps - ([.int .i64 v175, .int .i64 v176] : List DV).length) .undef) []).bind (retD TT Try.f65.results.toList 0) = (impl_bytesOf_T v175 v176).bind fun y => .leaf (impl_bytesOf_enc v175 v176 y) := by kernel_rfl
theorem impl_bytesOf_fn (v175 : Int) (v176 : Int) (F : Fr) (h0 : St F [] F.H0) (hA : DVs.Ok F [] [.int .i64 v175, .int .i64 v176]) {y : (List Int)} (hy : impl_bytesOf_g v175 v176 = some y) : ∃ F' H', Fwd 0 F F' [] (impl_bytesOf_enc v175 v176 y).2 ∧ FnOk Try.prog 65 (DVs.av F [.int .i64 v175, .int .i64 v176]) F.H0 ((impl_bytesOf_enc v175 v176 y).1.av F') H' ∧ St F' (impl_bytesOf_enc v175 v176 y).2 H' ∧ (impl_bytesOf_enc v175 v176 y).1.Ok F' (impl_bytesOf_enc v175 v176 y).2 :=
  fn_fin tok impl_bytesOf_hO mixed Try.func65 Try.call65 (by kernel_rfl) (LoopsOk_eq (l := [(0, bodyOf Try.f65 0)]) (by kernel_rfl) ⟨impl_bytesOf_l0_ok v175 v176, trivial⟩) (impl_bytesOf_den v175 v176) hy h0 hA
noncomputable def impl_bytesOf_F : DFn := fun args L =>
  match args with
  | [.int .i64 v175, .int .i64 v176] =>
    .call (impl_bytesOf_g v175 v176) fun y => .leaf (.own (L.length + 0) 0 ((y).length), L ++ [.row (.u8 y) 0])
  | _ => .fail
theorem impl_bytesOf_Fok : COk Try.prog 65 impl_bytesOf_F true := by
  intro F L H args r L' hs ha hr
  unfold impl_bytesOf_F at hr
  split at hr
  · rename_i v175 v176
    simp only [Tree.run] at hr
    obtain ⟨y, hy, hr⟩ := Option.bind_eq_some_iff.1 hr
    simp only [Tree.run, Option.some.injEq, Prod.mk.injEq] at hr
    obtain ⟨rfl, rfl⟩ := hr
    exact call_ok1 hs (fun k => (([] : List AV)[k]?).getD .top) [.int .i64 v175, .int .i64 v176] [.int .i64 v175, .int .i64 v176] (fun F' h0 hi hρ => ⟨by simp [DVs.av, DV.av, BR.av, hρ], impl_bytesOf_fn v175 v176 F' (st_nil hi) ⟨trivial, trivial, trivial⟩ hy⟩) rfl rfl
  · cases hr
/-! impl.checkOf -/
noncomputable def impl_checkOf_l0_T (v197 : ByteArray) (s : Int × Int) : Tree ((Int × Int) ⊕ (Int)) :=
  (.br (decide (s.2 < ((v197.size : Nat) : Int))) (
   (.grd (inb s.2 v197.size) <|
   (.grd (!decide ((65003 : Int) = 0)) <|
   .leaf (.inl (Int.tmod (IntKind.i64.wrap ((IntKind.i64.wrap ((IntKind.i64.wrap ((863 : Int) * s.1)) + (IntKind.i64.wrap (bt v197 s.2)))) + (157 : Int))) (65003 : Int), IntKind.i64.wrap (s.2 + (1 : Int))))))
  ) (
   .leaf (.inr s.1)
  ))

noncomputable def impl_checkOf_l0_g (v197 : ByteArray) (s0 : Int × Int) : Option (Int) := whileM (fun s => (impl_checkOf_l0_T v197 s).run) s0
def impl_checkOf_l0_E (v196 : Int) (v197 : ByteArray) (s : Int × Int) : Sd := ([.int .i64 s.1,.str v197,tp,tp,tp,tp,tp,.int .i64 ((v197.size : Nat) : Int),.int .i64 s.2,tp,tp,tp,tp,tp,tp,tp,tp,tp,tp,tp,tp,tp], [])
def impl_checkOf_l0_X (v196 : Int) (v197 : ByteArray) (x : Int) : Out := (.normal, [.int .i64 x,tp,tp,tp,tp,tp,tp,tp,tp,tp,tp,tp,tp,tp,tp,tp,tp,tp,tp,tp,tp,tp], [])
def impl_checkOf_l0_kill : List Nat := KL true [0,2,5,2,13]
def impl_checkOf_l0_nx : Exit → List Nat
  | .exit 0 => KL true [0,1,21]
  | .ret => KL true [4,1,17]
  | _ => []
noncomputable def impl_checkOf_LO (v196 : Int) (v197 : ByteArray) : LOr := fun id e L =>
  match id with
  | 0 => .need (normA 0 impl_checkOf_l0_kill e L = some (impl_checkOf_l0_E v196 v197 ((gI (vAt e 0)), (gI (vAt e 8))))) (.call (impl_checkOf_l0_g v197 ((gI (vAt e 0)), (gI (vAt e 8)))) fun x => .leaf (impl_checkOf_l0_X v196 v197 x))
  | _ => .fail
noncomputable def impl_checkOf_tab : List (FuncId × DFn × Bool) := []
theorem impl_checkOf_hO : OrcOk Try.prog (tabD impl_checkOf_tab) (tabM impl_checkOf_tab) := tabD_nil _
theorem impl_checkOf_l0_be (v196 : Int) (v197 : ByteArray) (s : Int × Int) : bodyT TT (tabD impl_checkOf_tab) (tabM impl_checkOf_tab) (impl_checkOf_LO v196 v197) 0 impl_checkOf_l0_kill impl_checkOf_l0_nx (bodyOf Try.f67 0) 0 (impl_checkOf_l0_E v196 v197 s) = (impl_checkOf_l0_T v197 s).bind fun y => .leaf (outS (impl_checkOf_l0_E v196 v197) (impl_checkOf_l0_X v196 v197) y) := by kernel_rfl
theorem impl_checkOf_l0_ok (v196 : Int) (v197 : ByteArray) : LSound Try.prog 0 (impl_checkOf_LO v196 v197) 0 (bodyOf Try.f67 0) := by
  intro e L out h
  exact lo_ok (E := impl_checkOf_l0_E v196 v197) (gT := impl_checkOf_l0_T v197) (X := impl_checkOf_l0_X v196 v197) (s0 := ((gI (vAt e 0)), (gI (vAt e 8)))) tok impl_checkOf_hO mixed (LoopsOk_eq (l := []) (by kernel_rfl) trivial) (impl_checkOf_l0_be v196 v197) rfl (by intro x; rfl) h
noncomputable def impl_checkOf_T (v196 : Int) (v197 : ByteArray) : Tree (Int) :=
  (.need (some (impl_checkOf_l0_E v196 v197 (v196, (0 : Int))) = some (impl_checkOf_l0_E v196 v197 (v196, (0 : Int)))) <|
  (.call (impl_checkOf_l0_g v197 (v196, (0 : Int))) fun v204 =>
  .leaf v204))

noncomputable def impl_checkOf_g (v196 : Int) (v197 : ByteArray) : Option (Int) := (impl_checkOf_T v196 v197).run
def impl_checkOf_enc (v196 : Int) (v197 : ByteArray) (y : Int) : Rs := (.int .i64 y, [])
theorem impl_checkOf_den (v196 : Int) (v197 : ByteArray) : (den TT (tabD impl_checkOf_tab) (tabM impl_checkOf_tab) (impl_checkOf_LO v196 v197) (codeOf Try.f67) ([.int .i64 v196, .str v197] ++ List.replicate (Try.f67.ntmps - ([.int .i64 v196, .str v197] : List DV).length) .undef) []).bind (retD TT Try.f67.results.toList 0) = (impl_checkOf_T v196 v197).bind fun y => .leaf (impl_checkOf_enc v196 v197 y) := by kernel_rfl
theorem impl_checkOf_fn (v196 : Int) (v197 : ByteArray) (F : Fr) (h0 : St F [] F.H0) (hA : DVs.Ok F [] [.int .i64 v196, .str v197]) {y : Int} (hy : impl_checkOf_g v196 v197 = some y) : ∃ F' H', Fwd 0 F F' [] (impl_checkOf_enc v196 v197 y).2 ∧ FnOk Try.prog 67 (DVs.av F [.int .i64 v196, .str v197]) F.H0 ((impl_checkOf_enc v196 v197 y).1.av F') H' ∧ St F' (impl_checkOf_enc v196 v197 y).2 H' ∧ (impl_checkOf_enc v196 v197 y).1.Ok F' (impl_checkOf_enc v196 v197 y).2 :=
  fn_fin tok impl_checkOf_hO mixed Try.func67 Try.call67 (by kernel_rfl) (LoopsOk_eq (l := [(0, bodyOf Try.f67 0)]) (by kernel_rfl) ⟨impl_checkOf_l0_ok v196 v197, trivial⟩) (impl_checkOf_den v196 v197) hy h0 hA
noncomputable def impl_checkOf_F : DFn := fun args L =>
  match args with
  | [.int .i64 v196, .str v197] =>
    .call (impl_checkOf_g v196 v197) fun y => .leaf (.int .i64 y, L)
  | _ => .fail
theorem impl_checkOf_Fok : COk Try.prog 67 impl_checkOf_F true := by
  intro F L H args r L' hs ha hr
  unfold impl_checkOf_F at hr
  split at hr
  · rename_i v196 v197
    simp only [Tree.run] at hr
    obtain ⟨y, hy, hr⟩ := Option.bind_eq_some_iff.1 hr
    simp only [Tree.run, Option.some.injEq, Prod.mk.injEq] at hr
    obtain ⟨rfl, rfl⟩ := hr
    exact call_ok0 hs (fun k => (([] : List AV)[k]?).getD .top) [.int .i64 v196, .str v197] [.int .i64 v196, .str v197] (fun F' h0 hi hρ => ⟨by simp [DVs.av, DV.av, BR.av, hρ], impl_checkOf_fn v196 v197 F' (st_nil hi) ⟨trivial, trivial, trivial⟩ hy⟩) rfl
  · cases hr
/-! impl.storeSheet -/
noncomputable def impl_storeSheet_l0_T (v171 : List Nat) (s : Int × (List Int)) : Tree ((Int × (List Int)) ⊕ ((List Int))) :=
  (.br (decide (s.1 < ((v171.length : Nat) : Int))) (
   (.grd (inb s.1 v171.length) <|
   (.call (impl_BitsOf_g (nth v171 (Int.toNat s.1))) fun v193 =>
   (.call (impl_bytesOf_g v193 (4 : Int)) fun v194 =>
   (.grd (fits (s.2 ++ v194).length) <|
   .leaf (.inl (IntKind.i64.wrap (s.1 + (1 : Int)), s.2 ++ v194))))))
  ) (
   .leaf (.inr s.2)
  ))

noncomputable def impl_storeSheet_l0_g (v171 : List Nat) (s0 : Int × (List Int)) : Option ((List Int)) := whileM (fun s => (impl_storeSheet_l0_T v171 s).run) s0
def impl_storeSheet_l0_E (v168 : ByteArray) (v169 : Int) (v170 : Int) (v171 : List Nat) (s : Int × (List Int)) : Sd := ([tp,tp,tp,.own 0 0 ((s.2).length),tp,tp,tp,tp,tp,tp,tp,tp,tp,tp,tp,tp,tp,tp,tp,tp,tp,tp,tp,tp,tp,tp,tp,tp,tp,tp,tp,.bslc (BR.root 0) (.f32 v171),.int .i64 ((v171.length : Nat) : Int),.int .i64 s.1,tp,tp,tp,tp,tp,tp,tp,tp,tp,tp,tp,tp,tp,tp,tp,tp], [.row (.u8 s.2) 0])
def impl_storeSheet_l0_X (v168 : ByteArray) (v169 : Int) (v170 : Int) (v171 : List Nat) (x : (List Int)) : Out := (.normal, [tp,tp,tp,.own 0 0 ((x).length),tp,tp,tp,tp,tp,tp,tp,tp,tp,tp,tp,tp,tp,tp,tp,tp,tp,tp,tp,tp,tp,tp,tp,tp,tp,tp,tp,tp,tp,tp,tp,tp,tp,tp,tp,tp,tp,tp,tp,tp,tp,tp,tp,tp,tp,tp], [.row (.u8 x) 0])
def impl_storeSheet_l0_kill : List Nat := KL true [3,1,27,3,16]
def impl_storeSheet_l0_nx : Exit → List Nat
  | .exit 0 => KL true [3,1,46]
  | .ret => KL true [2,1,47]
  | _ => []
noncomputable def impl_storeSheet_LO (v168 : ByteArray) (v169 : Int) (v170 : Int) (v171 : List Nat) : LOr := fun id e L =>
  match id with
  | 0 => .need (normA 0 impl_storeSheet_l0_kill e L = some (impl_storeSheet_l0_E v168 v169 v170 v171 ((gI (vAt e 33)), (gRI L (vAt e 3))))) (.call (impl_storeSheet_l0_g v171 ((gI (vAt e 33)), (gRI L (vAt e 3)))) fun x => .leaf (impl_storeSheet_l0_X v168 v169 v170 v171 x))
  | _ => .fail
noncomputable def impl_storeSheet_tab : List (FuncId × DFn × Bool) := [(66, impl_BitsOf_F, true), (65, impl_bytesOf_F, true), (67, impl_checkOf_F, true)]
theorem impl_storeSheet_hO : OrcOk Try.prog (tabD impl_storeSheet_tab) (tabM impl_storeSheet_tab) := tabD_cons impl_BitsOf_Fok (tabD_cons impl_bytesOf_Fok (tabD_cons impl_checkOf_Fok (tabD_nil _)))
theorem impl_storeSheet_l0_be (v168 : ByteArray) (v169 : Int) (v170 : Int) (v171 : List Nat) (s : Int × (List Int)) : bodyT TT (tabD impl_storeSheet_tab) (tabM impl_storeSheet_tab) (impl_storeSheet_LO v168 v169 v170 v171) 0 impl_storeSheet_l0_kill impl_storeSheet_l0_nx (bodyOf Try.f37 0) 0 (impl_storeSheet_l0_E v168 v169 v170 v171 s) = (impl_storeSheet_l0_T v171 s).bind fun y => .leaf (outS (impl_storeSheet_l0_E v168 v169 v170 v171) (impl_storeSheet_l0_X v168 v169 v170 v171) y) := by kernel_rfl
theorem impl_storeSheet_l0_ok (v168 : ByteArray) (v169 : Int) (v170 : Int) (v171 : List Nat) : LSound Try.prog 0 (impl_storeSheet_LO v168 v169 v170 v171) 0 (bodyOf Try.f37 0) := by
  intro e L out h
  exact lo_ok (E := impl_storeSheet_l0_E v168 v169 v170 v171) (gT := impl_storeSheet_l0_T v171) (X := impl_storeSheet_l0_X v168 v169 v170 v171) (s0 := ((gI (vAt e 33)), (gRI L (vAt e 3)))) tok impl_storeSheet_hO mixed (LoopsOk_eq (l := []) (by kernel_rfl) trivial) (impl_storeSheet_l0_be v168 v169 v170 v171) rfl (by intro x; rfl) h
noncomputable def impl_storeSheet_T (v168 : ByteArray) (v169 : Int) (v170 : Int) (v171 : List Nat) : Tree (ByteArray) :=
  (.grd (decide (0 < (([(77 : Int), (65 : Int), (84 : Int), (49 : Int)] : List Int).length))) <|
  (.grd (fits (([(77 : Int), (65 : Int), (84 : Int), (49 : Int)] : List Int) ++ ([IntKind.u8.wrap (((v168.size : Nat) : Int))] : List Int)).length) <|
  (.grd (fits ((([(77 : Int), (65 : Int), (84 : Int), (49 : Int)] : List Int) ++ ([IntKind.u8.wrap (((v168.size : Nat) : Int))] : List Int)) ++ numsS v168).length) <|
  (.grd (fits (((([(77 : Int), (65 : Int), (84 : Int), (49 : Int)] : List Int) ++ ([IntKind.u8.wrap (((v168.size : Nat) : Int))] : List Int)) ++ numsS v168) ++ ([IntKind.u8.wrap (v169), IntKind.u8.wrap (v170)] : List Int)).length) <|
  (.need (some (impl_storeSheet_l0_E v168 v169 v170 v171 ((0 : Int), ((([(77 : Int), (65 : Int), (84 : Int), (49 : Int)] : List Int) ++ ([IntKind.u8.wrap (((v168.size : Nat) : Int))] : List Int)) ++ numsS v168) ++ ([IntKind.u8.wrap (v169), IntKind.u8.wrap (v170)] : List Int))) = some (impl_storeSheet_l0_E v168 v169 v170 v171 ((0 : Int), ((([(77 : Int), (65 : Int), (84 : Int), (49 : Int)] : List Int) ++ ([IntKind.u8.wrap (((v168.size : Nat) : Int))] : List Int)) ++ numsS v168) ++ ([IntKind.u8.wrap (v169), IntKind.u8.wrap (v170)] : List Int)))) <|
  (.call (impl_storeSheet_l0_g v171 ((0 : Int), ((([(77 : Int), (65 : Int), (84 : Int), (49 : Int)] : List Int) ++ ([IntKind.u8.wrap (((v168.size : Nat) : Int))] : List Int)) ++ numsS v168) ++ ([IntKind.u8.wrap (v169), IntKind.u8.wrap (v170)] : List Int))) fun v195 =>
  (.call (impl_checkOf_g (0 : Int) (strOfNums v195)) fun v205 =>
  (.call (impl_bytesOf_g v205 (2 : Int)) fun v206 =>
  (.grd (fits (v195 ++ v206).length) <|
  .leaf (strOfNums (v195 ++ v206)))))))))))

noncomputable def impl_storeSheet_g (v168 : ByteArray) (v169 : Int) (v170 : Int) (v171 : List Nat) : Option (ByteArray) := (impl_storeSheet_T v168 v169 v170 v171).run
def impl_storeSheet_enc (v168 : ByteArray) (v169 : Int) (v170 : Int) (v171 : List Nat) (y : ByteArray) : Rs := (.str y, [])
theorem impl_storeSheet_den (v168 : ByteArray) (v169 : Int) (v170 : Int) (v171 : List Nat) : (den TT (tabD impl_storeSheet_tab) (tabM impl_storeSheet_tab) (impl_storeSheet_LO v168 v169 v170 v171) (codeOf Try.f37) ([.agg [.str v168, .int .i64 v169, .int .i64 v170, .bslc (BR.root 0) (.f32 v171)]] ++ List.replicate (Try.f37.ntmps - ([.agg [.str v168, .int .i64 v169, .int .i64 v170, .bslc (BR.root 0) (.f32 v171)]] : List DV).length) .undef) []).bind (retD TT Try.f37.results.toList 0) = (impl_storeSheet_T v168 v169 v170 v171).bind fun y => .leaf (impl_storeSheet_enc v168 v169 v170 v171 y) := by kernel_rfl
theorem impl_storeSheet_fn (v168 : ByteArray) (v169 : Int) (v170 : Int) (v171 : List Nat) (F : Fr) (h0 : St F [] F.H0) (hA : DVs.Ok F [] [.agg [.str v168, .int .i64 v169, .int .i64 v170, .bslc (BR.root 0) (.f32 v171)]]) {y : ByteArray} (hy : impl_storeSheet_g v168 v169 v170 v171 = some y) : ∃ F' H', Fwd 0 F F' [] (impl_storeSheet_enc v168 v169 v170 v171 y).2 ∧ FnOk Try.prog 37 (DVs.av F [.agg [.str v168, .int .i64 v169, .int .i64 v170, .bslc (BR.root 0) (.f32 v171)]]) F.H0 ((impl_storeSheet_enc v168 v169 v170 v171 y).1.av F') H' ∧ St F' (impl_storeSheet_enc v168 v169 v170 v171 y).2 H' ∧ (impl_storeSheet_enc v168 v169 v170 v171 y).1.Ok F' (impl_storeSheet_enc v168 v169 v170 v171 y).2 :=
  fn_fin tok impl_storeSheet_hO mixed Try.func37 Try.call37 (by kernel_rfl) (LoopsOk_eq (l := [(0, bodyOf Try.f37 0)]) (by kernel_rfl) ⟨impl_storeSheet_l0_ok v168 v169 v170 v171, trivial⟩) (impl_storeSheet_den v168 v169 v170 v171) hy h0 hA
noncomputable def impl_storeSheet_F : DFn := fun args L =>
  match args with
  | [.agg [.str v168, .int .i64 v169, .int .i64 v170, a1]] =>
    optT (rowF32 L a1) fun v171 =>
    .call (impl_storeSheet_g v168 v169 v170 v171) fun y => .leaf (.str y, L)
  | _ => .fail
theorem impl_storeSheet_Fok : COk Try.prog 37 impl_storeSheet_F true := by
  intro F L H args r L' hs ha hr
  unfold impl_storeSheet_F at hr
  split at hr
  · rename_i v168 v169 v170 a1
    obtain ⟨v171, hv171, hr⟩ := optT_run hr
    simp only [Tree.run] at hr
    obtain ⟨y, hy, hr⟩ := Option.bind_eq_some_iff.1 hr
    simp only [Tree.run, Option.some.injEq, Prod.mk.injEq] at hr
    obtain ⟨rfl, rfl⟩ := hr
    exact call_ok0 hs (fun k => (([a1.av F] : List AV)[k]?).getD .top) [.agg [.str v168, .int .i64 v169, .int .i64 v170, a1]] [.agg [.str v168, .int .i64 v169, .int .i64 v170, .bslc (BR.root 0) (.f32 v171)]] (fun F' h0 hi hρ => ⟨by simp [DVs.av, DV.av, BR.av, hρ], impl_storeSheet_fn v168 v169 v170 v171 F' (st_nil hi) ⟨⟨trivial, trivial, trivial, bslc_ok hi (by rw [h0, hρ]; exact rowF32_ok hs (DVs.okAt (DVs.okAt ha 0 rfl) 3 rfl) hv171), trivial⟩, trivial⟩ hy⟩) rfl
  · cases hr
/-! impl.loadSheet -/
noncomputable def impl_loadSheet_l0_T (v103 : ByteArray) (s : (Int) ⊕ (Int × (List Nat))) : Tree (((Int) ⊕ (Int × (List Nat))) ⊕ ((Unit) ⊕ ((List Nat)))) :=
  (match s with
  | .inl s => (
  (.br (decide (s < IntKind.i64.wrap ((IntKind.i64.wrap ((7 : Int) + (IntKind.i64.wrap (bt v103 (4 : Int))))) + (IntKind.i64.wrap ((4 : Int) * (IntKind.i64.wrap ((IntKind.i64.wrap (bt v103 (IntKind.i64.wrap ((IntKind.i64.wrap ((7 : Int) + (IntKind.i64.wrap (bt v103 (4 : Int))))) - (2 : Int))))) * (IntKind.i64.wrap (bt v103 (IntKind.i64.wrap ((IntKind.i64.wrap ((7 : Int) + (IntKind.i64.wrap (bt v103 (4 : Int))))) - (1 : Int)))))))))))) (
   (.grd (sok s (IntKind.i64.wrap (s + (4 : Int))) v103.size) <|
   (.call (impl_numberOf_g (ByteArray.extract v103 (Int.toNat s) (Int.toNat (IntKind.i64.wrap (s + (4 : Int)))))) fun v123 =>
   (.grd (fits ([canon .f32 (Int.toNat (IntKind.u32.wrap (v123)))] : List Nat).length) <|
   (.br (decide (([canon .f32 (Int.toNat (IntKind.u32.wrap (v123)))] : List Nat).length = 0)) (
    .fail
   ) (
    .leaf (.inl (.inr (IntKind.i64.wrap (s + (4 : Int)), ([canon .f32 (Int.toNat (IntKind.u32.wrap (v123)))] : List Nat))))
   )))))
  ) (
   .leaf (.inr (.inl ()))
  )))
  | .inr s => (
  (.br (decide (s.1 < IntKind.i64.wrap ((IntKind.i64.wrap ((7 : Int) + (IntKind.i64.wrap (bt v103 (4 : Int))))) + (IntKind.i64.wrap ((4 : Int) * (IntKind.i64.wrap ((IntKind.i64.wrap (bt v103 (IntKind.i64.wrap ((IntKind.i64.wrap ((7 : Int) + (IntKind.i64.wrap (bt v103 (4 : Int))))) - (2 : Int))))) * (IntKind.i64.wrap (bt v103 (IntKind.i64.wrap ((IntKind.i64.wrap ((7 : Int) + (IntKind.i64.wrap (bt v103 (4 : Int))))) - (1 : Int)))))))))))) (
   (.grd (sok s.1 (IntKind.i64.wrap (s.1 + (4 : Int))) v103.size) <|
   (.call (impl_numberOf_g (ByteArray.extract v103 (Int.toNat s.1) (Int.toNat (IntKind.i64.wrap (s.1 + (4 : Int)))))) fun v124 =>
   (.grd (fits (s.2 ++ ([canon .f32 (Int.toNat (IntKind.u32.wrap (v124)))] : List Nat)).length) <|
   .leaf (.inl (.inr (IntKind.i64.wrap (s.1 + (4 : Int)), s.2 ++ ([canon .f32 (Int.toNat (IntKind.u32.wrap (v124)))] : List Nat)))))))
  ) (
   .leaf (.inr (.inr s.2))
  ))))

noncomputable def impl_loadSheet_l0_g (v103 : ByteArray) (s0 : (Int) ⊕ (Int × (List Nat))) : Option ((Unit) ⊕ ((List Nat))) := whileM (fun s => (impl_loadSheet_l0_T v103 s).run) s0
def impl_loadSheet_l0_E (v103 : ByteArray) (s : (Int) ⊕ (Int × (List Nat))) : Sd := (match s with | .inl s => ( ([.str v103,tp,.ptr 0 (0 : Nat) 0 (4 : Nat),tp,tp,tp,.ptr 1 (0 : Nat) 0 (4 : Nat),tp,.int .i64 (IntKind.i64.wrap ((IntKind.i64.wrap ((7 : Int) + (IntKind.i64.wrap (bt v103 (4 : Int))))) + (IntKind.i64.wrap ((4 : Int) * (IntKind.i64.wrap ((IntKind.i64.wrap (bt v103 (IntKind.i64.wrap ((IntKind.i64.wrap ((7 : Int) + (IntKind.i64.wrap (bt v103 (4 : Int))))) - (2 : Int))))) * (IntKind.i64.wrap (bt v103 (IntKind.i64.wrap ((IntKind.i64.wrap ((7 : Int) + (IntKind.i64.wrap (bt v103 (4 : Int))))) - (1 : Int))))))))))),.int .i64 s,tp,tp,tp,tp,tp,tp,tp,tp,tp,tp,tp,tp,tp,tp,tp,tp,tp,tp,tp,tp,tp,tp,tp,tp,tp,tp,tp,tp,tp,tp,tp,tp,tp,tp,tp,tp,tp,tp,tp,tp,tp,tp,tp,tp,tp,tp,tp,tp,tp,tp,tp,tp,tp,tp,tp,tp,tp,tp,tp,tp,tp,tp,tp,tp,tp,tp,tp,tp,tp,tp,tp,tp,tp,tp,tp,tp,tp,tp,tp,tp,tp,tp,tp,tp,tp,tp,tp], [.gen [.str ByteArray.empty, .int .i64 (0 : Int), .int .i64 (0 : Int), .nilslc] false 0, .gen [.str (ByteArray.extract v103 (Int.toNat (5 : Int)) (Int.toNat (IntKind.i64.wrap ((IntKind.i64.wrap ((7 : Int) + (IntKind.i64.wrap (bt v103 (4 : Int))))) - (2 : Int))))), .int .i64 (IntKind.i64.wrap (bt v103 (IntKind.i64.wrap ((IntKind.i64.wrap ((7 : Int) + (IntKind.i64.wrap (bt v103 (4 : Int))))) - (2 : Int))))), .int .i64 (IntKind.i64.wrap (bt v103 (IntKind.i64.wrap ((IntKind.i64.wrap ((7 : Int) + (IntKind.i64.wrap (bt v103 (4 : Int))))) - (1 : Int))))), .nilslc] false 0])) | .inr s => ( ([.str v103,tp,.ptr 0 (0 : Nat) 0 (4 : Nat),tp,tp,tp,.ptr 1 (0 : Nat) 0 (4 : Nat),tp,.int .i64 (IntKind.i64.wrap ((IntKind.i64.wrap ((7 : Int) + (IntKind.i64.wrap (bt v103 (4 : Int))))) + (IntKind.i64.wrap ((4 : Int) * (IntKind.i64.wrap ((IntKind.i64.wrap (bt v103 (IntKind.i64.wrap ((IntKind.i64.wrap ((7 : Int) + (IntKind.i64.wrap (bt v103 (4 : Int))))) - (2 : Int))))) * (IntKind.i64.wrap (bt v103 (IntKind.i64.wrap ((IntKind.i64.wrap ((7 : Int) + (IntKind.i64.wrap (bt v103 (4 : Int))))) - (1 : Int))))))))))),.int .i64 s.1,tp,tp,tp,tp,tp,tp,tp,tp,tp,tp,tp,tp,tp,tp,tp,tp,tp,tp,tp,tp,tp,tp,tp,tp,tp,tp,tp,tp,tp,tp,tp,tp,tp,tp,tp,tp,tp,tp,tp,tp,tp,tp,tp,tp,tp,tp,tp,tp,tp,tp,tp,tp,tp,tp,tp,tp,tp,tp,tp,tp,tp,tp,tp,tp,tp,tp,tp,tp,tp,tp,tp,tp,tp,tp,tp,tp,tp,tp,tp,tp,tp,tp,tp,tp,tp,tp,tp], [.gen [.str ByteArray.empty, .int .i64 (0 : Int), .int .i64 (0 : Int), .nilslc] false 0, .gen [.str (ByteArray.extract v103 (Int.toNat (5 : Int)) (Int.toNat (IntKind.i64.wrap ((IntKind.i64.wrap ((7 : Int) + (IntKind.i64.wrap (bt v103 (4 : Int))))) - (2 : Int))))), .int .i64 (IntKind.i64.wrap (bt v103 (IntKind.i64.wrap ((IntKind.i64.wrap ((7 : Int) + (IntKind.i64.wrap (bt v103 (4 : Int))))) - (2 : Int))))), .int .i64 (IntKind.i64.wrap (bt v103 (IntKind.i64.wrap ((IntKind.i64.wrap ((7 : Int) + (IntKind.i64.wrap (bt v103 (4 : Int))))) - (1 : Int))))), .own 2 0 ((s.2).length)] false 0, .row (.f32 s.2) 0]))) 
def impl_loadSheet_l0_X (v103 : ByteArray) (x : (Unit) ⊕ ((List Nat))) : Out := (match x with | .inl x => (.normal, [.str v103,tp,.ptr 0 (0 : Nat) 0 (4 : Nat),tp,tp,tp,.ptr 1 (0 : Nat) 0 (4 : Nat),tp,.int .i64 (IntKind.i64.wrap ((IntKind.i64.wrap ((7 : Int) + (IntKind.i64.wrap (bt v103 (4 : Int))))) + (IntKind.i64.wrap ((4 : Int) * (IntKind.i64.wrap ((IntKind.i64.wrap (bt v103 (IntKind.i64.wrap ((IntKind.i64.wrap ((7 : Int) + (IntKind.i64.wrap (bt v103 (4 : Int))))) - (2 : Int))))) * (IntKind.i64.wrap (bt v103 (IntKind.i64.wrap ((IntKind.i64.wrap ((7 : Int) + (IntKind.i64.wrap (bt v103 (4 : Int))))) - (1 : Int))))))))))),tp,tp,tp,tp,tp,tp,tp,tp,tp,tp,tp,tp,tp,tp,tp,tp,tp,tp,tp,tp,tp,tp,tp,tp,tp,tp,tp,tp,tp,tp,tp,tp,tp,tp,tp,tp,tp,tp,tp,tp,tp,tp,tp,tp,tp,tp,tp,tp,tp,tp,tp,tp,tp,tp,tp,tp,tp,tp,tp,tp,tp,tp,tp,tp,tp,tp,tp,tp,tp,tp,tp,tp,tp,tp,tp,tp,tp,tp,tp,tp,tp,tp,tp,tp,tp,tp,tp,tp], [.gen [.str ByteArray.empty, .int .i64 (0 : Int), .int .i64 (0 : Int), .nilslc] false 0, .gen [.str (ByteArray.extract v103 (Int.toNat (5 : Int)) (Int.toNat (IntKind.i64.wrap ((IntKind.i64.wrap ((7 : Int) + (IntKind.i64.wrap (bt v103 (4 : Int))))) - (2 : Int))))), .int .i64 (IntKind.i64.wrap (bt v103 (IntKind.i64.wrap ((IntKind.i64.wrap ((7 : Int) + (IntKind.i64.wrap (bt v103 (4 : Int))))) - (2 : Int))))), .int .i64 (IntKind.i64.wrap (bt v103 (IntKind.i64.wrap ((IntKind.i64.wrap ((7 : Int) + (IntKind.i64.wrap (bt v103 (4 : Int))))) - (1 : Int))))), .nilslc] false 0]) | .inr x => (.normal, [.str v103,tp,.ptr 0 (0 : Nat) 0 (4 : Nat),tp,tp,tp,.ptr 1 (0 : Nat) 0 (4 : Nat),tp,.int .i64 (IntKind.i64.wrap ((IntKind.i64.wrap ((7 : Int) + (IntKind.i64.wrap (bt v103 (4 : Int))))) + (IntKind.i64.wrap ((4 : Int) * (IntKind.i64.wrap ((IntKind.i64.wrap (bt v103 (IntKind.i64.wrap ((IntKind.i64.wrap ((7 : Int) + (IntKind.i64.wrap (bt v103 (4 : Int))))) - (2 : Int))))) * (IntKind.i64.wrap (bt v103 (IntKind.i64.wrap ((IntKind.i64.wrap ((7 : Int) + (IntKind.i64.wrap (bt v103 (4 : Int))))) - (1 : Int))))))))))),tp,tp,tp,tp,tp,tp,tp,tp,tp,tp,tp,tp,tp,tp,tp,tp,tp,tp,tp,tp,tp,tp,tp,tp,tp,tp,tp,tp,tp,tp,tp,tp,tp,tp,tp,tp,tp,tp,tp,tp,tp,tp,tp,tp,tp,tp,tp,tp,tp,tp,tp,tp,tp,tp,tp,tp,tp,tp,tp,tp,tp,tp,tp,tp,tp,tp,tp,tp,tp,tp,tp,tp,tp,tp,tp,tp,tp,tp,tp,tp,tp,tp,tp,tp,tp,tp,tp,tp], [.gen [.str ByteArray.empty, .int .i64 (0 : Int), .int .i64 (0 : Int), .nilslc] false 0, .gen [.str (ByteArray.extract v103 (Int.toNat (5 : Int)) (Int.toNat (IntKind.i64.wrap ((IntKind.i64.wrap ((7 : Int) + (IntKind.i64.wrap (bt v103 (4 : Int))))) - (2 : Int))))), .int .i64 (IntKind.i64.wrap (bt v103 (IntKind.i64.wrap ((IntKind.i64.wrap ((7 : Int) + (IntKind.i64.wrap (bt v103 (4 : Int))))) - (2 : Int))))), .int .i64 (IntKind.i64.wrap (bt v103 (IntKind.i64.wrap ((IntKind.i64.wrap ((7 : Int) + (IntKind.i64.wrap (bt v103 (4 : Int))))) - (1 : Int))))), .own 2 0 ((x).length)] false 0, .row (.f32 x) 0]))
def impl_loadSheet_l0_kill : List Nat := KL true [0,1,1,1,3,1,1,2,87]
def impl_loadSheet_l0_nx : Exit → List Nat
  | .exit 0 => KL true [0,1,1,1,3,1,1,1,88]
  | .ret => KL true [2,3,92]
  | _ => []
noncomputable def impl_loadSheet_LO (v103 : ByteArray) : LOr := fun id e L =>
  match id with
  | 0 => .need (normA 0 impl_loadSheet_l0_kill e L = some (impl_loadSheet_l0_E v103 (.inl (gI (vAt e 9))))) (.call (impl_loadSheet_l0_g v103 (.inl (gI (vAt e 9)))) fun x => .sum x (fun b0 => .leaf (impl_loadSheet_l0_X v103 (.inl b0))) (fun c0 => .leaf (impl_loadSheet_l0_X v103 (.inr c0))))
  | _ => .fail
noncomputable def impl_loadSheet_tab : List (FuncId × DFn × Bool) := [(72, impl_numberOf_F, true), (71, From32_F, true), (31, impl_ValidSheet_F, true), (37, impl_storeSheet_F, true)]
theorem impl_loadSheet_hO : OrcOk Try.prog (tabD impl_loadSheet_tab) (tabM impl_loadSheet_tab) := tabD_cons impl_numberOf_Fok (tabD_cons From32_Fok (tabD_cons impl_ValidSheet_Fok (tabD_cons impl_storeSheet_Fok (tabD_nil _))))
theorem impl_loadSheet_l0_be0 (v103 : ByteArray) (s : Int) : bodyT TT (tabD impl_loadSheet_tab) (tabM impl_loadSheet_tab) (impl_loadSheet_LO v103) 0 impl_loadSheet_l0_kill impl_loadSheet_l0_nx (bodyOf Try.f40 0) 0 (impl_loadSheet_l0_E v103 (.inl s)) = (impl_loadSheet_l0_T v103 (.inl s)).bind fun y => .leaf (outS (impl_loadSheet_l0_E v103) (impl_loadSheet_l0_X v103) y) := by kernel_rfl
theorem impl_loadSheet_l0_be1 (v103 : ByteArray) (s : Int × (List Nat)) : bodyT TT (tabD impl_loadSheet_tab) (tabM impl_loadSheet_tab) (impl_loadSheet_LO v103) 0 impl_loadSheet_l0_kill impl_loadSheet_l0_nx (bodyOf Try.f40 0) 0 (impl_loadSheet_l0_E v103 (.inr s)) = (impl_loadSheet_l0_T v103 (.inr s)).bind fun y => .leaf (outS (impl_loadSheet_l0_E v103) (impl_loadSheet_l0_X v103) y) := by kernel_rfl
theorem impl_loadSheet_l0_be (v103 : ByteArray) (s : (Int) ⊕ (Int × (List Nat))) : bodyT TT (tabD impl_loadSheet_tab) (tabM impl_loadSheet_tab) (impl_loadSheet_LO v103) 0 impl_loadSheet_l0_kill impl_loadSheet_l0_nx (bodyOf Try.f40 0) 0 (impl_loadSheet_l0_E v103 s) = (impl_loadSheet_l0_T v103 s).bind fun y => .leaf (outS (impl_loadSheet_l0_E v103) (impl_loadSheet_l0_X v103) y) := by 
  rcases s with s | s
  · exact impl_loadSheet_l0_be0 v103 s
  · exact impl_loadSheet_l0_be1 v103 s
theorem impl_loadSheet_l0_ok (v103 : ByteArray) : LSound Try.prog 0 (impl_loadSheet_LO v103) 0 (bodyOf Try.f40 0) := by
  intro e L out h
  exact lo_ok (E := impl_loadSheet_l0_E v103) (gT := impl_loadSheet_l0_T v103) (X := impl_loadSheet_l0_X v103) (s0 := .inl (gI (vAt e 9))) tok impl_loadSheet_hO mixed (LoopsOk_eq (l := []) (by kernel_rfl) trivial) (impl_loadSheet_l0_be v103) rfl (by intro x; (cases x with | inl b => rfl | inr x => exact rfl)) h
noncomputable def impl_loadSheet_T (v103 : ByteArray) : Tree ((ByteArray) ⊕ ((ByteArray × Int × Int × Int) ⊕ (ByteArray × Int × Int × Int × (List Nat)))) :=
  (.br (decide (((v103.size : Nat) : Int) < (5 : Int))) (
   .leaf (.inl ByteArray.empty)
  ) (
   (.grd (inb (4 : Int) v103.size) <|
   (.br (decide (((v103.size : Nat) : Int) < IntKind.i64.wrap ((7 : Int) + (IntKind.i64.wrap (bt v103 (4 : Int)))))) (
    .leaf (.inl ByteArray.empty)
   ) (
    (.grd (inb (4 : Int) v103.size) <|
    (.grd (sok (5 : Int) (IntKind.i64.wrap ((IntKind.i64.wrap ((7 : Int) + (IntKind.i64.wrap (bt v103 (4 : Int))))) - (2 : Int))) v103.size) <|
    (.grd (inb (IntKind.i64.wrap ((IntKind.i64.wrap ((7 : Int) + (IntKind.i64.wrap (bt v103 (4 : Int))))) - (2 : Int))) v103.size) <|
    (.grd (inb (IntKind.i64.wrap ((IntKind.i64.wrap ((7 : Int) + (IntKind.i64.wrap (bt v103 (4 : Int))))) - (1 : Int))) v103.size) <|
    (.br (decide (((v103.size : Nat) : Int) < IntKind.i64.wrap ((IntKind.i64.wrap ((IntKind.i64.wrap ((7 : Int) + (IntKind.i64.wrap (bt v103 (4 : Int))))) + (IntKind.i64.wrap ((4 : Int) * (IntKind.i64.wrap ((IntKind.i64.wrap (bt v103 (IntKind.i64.wrap ((IntKind.i64.wrap ((7 : Int) + (IntKind.i64.wrap (bt v103 (4 : Int))))) - (2 : Int))))) * (IntKind.i64.wrap (bt v103 (IntKind.i64.wrap ((IntKind.i64.wrap ((7 : Int) + (IntKind.i64.wrap (bt v103 (4 : Int))))) - (1 : Int))))))))))) + (2 : Int)))) (
     .leaf (.inl ByteArray.empty)
    ) (
     (.need (some (impl_loadSheet_l0_E v103 (.inl (IntKind.i64.wrap ((7 : Int) + (IntKind.i64.wrap (bt v103 (4 : Int))))))) = some (impl_loadSheet_l0_E v103 (.inl (IntKind.i64.wrap ((7 : Int) + (IntKind.i64.wrap (bt v103 (4 : Int)))))))) <|
     (.call (impl_loadSheet_l0_g v103 (.inl (IntKind.i64.wrap ((7 : Int) + (IntKind.i64.wrap (bt v103 (4 : Int))))))) fun v125 =>
     (.sum v125 (fun v126 =>
      (.call (impl_ValidSheet_g (ByteArray.extract v103 (Int.toNat (5 : Int)) (Int.toNat (IntKind.i64.wrap ((IntKind.i64.wrap ((7 : Int) + (IntKind.i64.wrap (bt v103 (4 : Int))))) - (2 : Int))))) (IntKind.i64.wrap (bt v103 (IntKind.i64.wrap ((IntKind.i64.wrap ((7 : Int) + (IntKind.i64.wrap (bt v103 (4 : Int))))) - (2 : Int))))) (IntKind.i64.wrap (bt v103 (IntKind.i64.wrap ((IntKind.i64.wrap ((7 : Int) + (IntKind.i64.wrap (bt v103 (4 : Int))))) - (1 : Int))))) ([] : List Nat)) fun v167 =>
      (.br (!v167) (
       .leaf (.inl ByteArray.empty)
      ) (
       (.call (impl_storeSheet_g (ByteArray.extract v103 (Int.toNat (5 : Int)) (Int.toNat (IntKind.i64.wrap ((IntKind.i64.wrap ((7 : Int) + (IntKind.i64.wrap (bt v103 (4 : Int))))) - (2 : Int))))) (IntKind.i64.wrap (bt v103 (IntKind.i64.wrap ((IntKind.i64.wrap ((7 : Int) + (IntKind.i64.wrap (bt v103 (4 : Int))))) - (2 : Int))))) (IntKind.i64.wrap (bt v103 (IntKind.i64.wrap ((IntKind.i64.wrap ((7 : Int) + (IntKind.i64.wrap (bt v103 (4 : Int))))) - (1 : Int))))) ([] : List Nat)) fun v207 =>
       (.grd (sok (0 : Int) (IntKind.i64.wrap ((IntKind.i64.wrap ((IntKind.i64.wrap ((7 : Int) + (IntKind.i64.wrap (bt v103 (4 : Int))))) + (IntKind.i64.wrap ((4 : Int) * (IntKind.i64.wrap ((IntKind.i64.wrap (bt v103 (IntKind.i64.wrap ((IntKind.i64.wrap ((7 : Int) + (IntKind.i64.wrap (bt v103 (4 : Int))))) - (2 : Int))))) * (IntKind.i64.wrap (bt v103 (IntKind.i64.wrap ((IntKind.i64.wrap ((7 : Int) + (IntKind.i64.wrap (bt v103 (4 : Int))))) - (1 : Int))))))))))) + (2 : Int))) v103.size) <|
       (.br (!(v207.toList == (ByteArray.extract v103 (Int.toNat (0 : Int)) (Int.toNat (IntKind.i64.wrap ((IntKind.i64.wrap ((IntKind.i64.wrap ((7 : Int) + (IntKind.i64.wrap (bt v103 (4 : Int))))) + (IntKind.i64.wrap ((4 : Int) * (IntKind.i64.wrap ((IntKind.i64.wrap (bt v103 (IntKind.i64.wrap ((IntKind.i64.wrap ((7 : Int) + (IntKind.i64.wrap (bt v103 (4 : Int))))) - (2 : Int))))) * (IntKind.i64.wrap (bt v103 (IntKind.i64.wrap ((IntKind.i64.wrap ((7 : Int) + (IntKind.i64.wrap (bt v103 (4 : Int))))) - (1 : Int))))))))))) + (2 : Int))))).toList)) (
        .leaf (.inl ByteArray.empty)
       ) (
        .leaf (.inr (.inl (ByteArray.extract v103 (Int.toNat (5 : Int)) (Int.toNat (IntKind.i64.wrap ((IntKind.i64.wrap ((7 : Int) + (IntKind.i64.wrap (bt v103 (4 : Int))))) - (2 : Int)))), IntKind.i64.wrap (bt v103 (IntKind.i64.wrap ((IntKind.i64.wrap ((7 : Int) + (IntKind.i64.wrap (bt v103 (4 : Int))))) - (2 : Int)))), IntKind.i64.wrap (bt v103 (IntKind.i64.wrap ((IntKind.i64.wrap ((7 : Int) + (IntKind.i64.wrap (bt v103 (4 : Int))))) - (1 : Int)))), IntKind.i64.wrap ((IntKind.i64.wrap ((IntKind.i64.wrap ((7 : Int) + (IntKind.i64.wrap (bt v103 (4 : Int))))) + (IntKind.i64.wrap ((4 : Int) * (IntKind.i64.wrap ((IntKind.i64.wrap (bt v103 (IntKind.i64.wrap ((IntKind.i64.wrap ((7 : Int) + (IntKind.i64.wrap (bt v103 (4 : Int))))) - (2 : Int))))) * (IntKind.i64.wrap (bt v103 (IntKind.i64.wrap ((IntKind.i64.wrap ((7 : Int) + (IntKind.i64.wrap (bt v103 (4 : Int))))) - (1 : Int))))))))))) + (2 : Int)))))
       ))))
      )))
     ) (fun v127 =>
      (.call (impl_ValidSheet_g (ByteArray.extract v103 (Int.toNat (5 : Int)) (Int.toNat (IntKind.i64.wrap ((IntKind.i64.wrap ((7 : Int) + (IntKind.i64.wrap (bt v103 (4 : Int))))) - (2 : Int))))) (IntKind.i64.wrap (bt v103 (IntKind.i64.wrap ((IntKind.i64.wrap ((7 : Int) + (IntKind.i64.wrap (bt v103 (4 : Int))))) - (2 : Int))))) (IntKind.i64.wrap (bt v103 (IntKind.i64.wrap ((IntKind.i64.wrap ((7 : Int) + (IntKind.i64.wrap (bt v103 (4 : Int))))) - (1 : Int))))) v127) fun v208 =>
      (.br (!v208) (
       .leaf (.inl ByteArray.empty)
      ) (
       (.call (impl_storeSheet_g (ByteArray.extract v103 (Int.toNat (5 : Int)) (Int.toNat (IntKind.i64.wrap ((IntKind.i64.wrap ((7 : Int) + (IntKind.i64.wrap (bt v103 (4 : Int))))) - (2 : Int))))) (IntKind.i64.wrap (bt v103 (IntKind.i64.wrap ((IntKind.i64.wrap ((7 : Int) + (IntKind.i64.wrap (bt v103 (4 : Int))))) - (2 : Int))))) (IntKind.i64.wrap (bt v103 (IntKind.i64.wrap ((IntKind.i64.wrap ((7 : Int) + (IntKind.i64.wrap (bt v103 (4 : Int))))) - (1 : Int))))) v127) fun v209 =>
       (.grd (sok (0 : Int) (IntKind.i64.wrap ((IntKind.i64.wrap ((IntKind.i64.wrap ((7 : Int) + (IntKind.i64.wrap (bt v103 (4 : Int))))) + (IntKind.i64.wrap ((4 : Int) * (IntKind.i64.wrap ((IntKind.i64.wrap (bt v103 (IntKind.i64.wrap ((IntKind.i64.wrap ((7 : Int) + (IntKind.i64.wrap (bt v103 (4 : Int))))) - (2 : Int))))) * (IntKind.i64.wrap (bt v103 (IntKind.i64.wrap ((IntKind.i64.wrap ((7 : Int) + (IntKind.i64.wrap (bt v103 (4 : Int))))) - (1 : Int))))))))))) + (2 : Int))) v103.size) <|
       (.br (!(v209.toList == (ByteArray.extract v103 (Int.toNat (0 : Int)) (Int.toNat (IntKind.i64.wrap ((IntKind.i64.wrap ((IntKind.i64.wrap ((7 : Int) + (IntKind.i64.wrap (bt v103 (4 : Int))))) + (IntKind.i64.wrap ((4 : Int) * (IntKind.i64.wrap ((IntKind.i64.wrap (bt v103 (IntKind.i64.wrap ((IntKind.i64.wrap ((7 : Int) + (IntKind.i64.wrap (bt v103 (4 : Int))))) - (2 : Int))))) * (IntKind.i64.wrap (bt v103 (IntKind.i64.wrap ((IntKind.i64.wrap ((7 : Int) + (IntKind.i64.wrap (bt v103 (4 : Int))))) - (1 : Int))))))))))) + (2 : Int))))).toList)) (
        .leaf (.inl ByteArray.empty)
       ) (
        .leaf (.inr (.inr (ByteArray.extract v103 (Int.toNat (5 : Int)) (Int.toNat (IntKind.i64.wrap ((IntKind.i64.wrap ((7 : Int) + (IntKind.i64.wrap (bt v103 (4 : Int))))) - (2 : Int)))), IntKind.i64.wrap (bt v103 (IntKind.i64.wrap ((IntKind.i64.wrap ((7 : Int) + (IntKind.i64.wrap (bt v103 (4 : Int))))) - (2 : Int)))), IntKind.i64.wrap (bt v103 (IntKind.i64.wrap ((IntKind.i64.wrap ((7 : Int) + (IntKind.i64.wrap (bt v103 (4 : Int))))) - (1 : Int)))), IntKind.i64.wrap ((IntKind.i64.wrap ((IntKind.i64.wrap ((7 : Int) + (IntKind.i64.wrap (bt v103 (4 : Int))))) + (IntKind.i64.wrap ((4 : Int) * (IntKind.i64.wrap ((IntKind.i64.wrap (bt v103 (IntKind.i64.wrap ((IntKind.i64.wrap ((7 : Int) + (IntKind.i64.wrap (bt v103 (4 : Int))))) - (2 : Int))))) * (IntKind.i64.wrap (bt v103 (IntKind.i64.wrap ((IntKind.i64.wrap ((7 : Int) + (IntKind.i64.wrap (bt v103 (4 : Int))))) - (1 : Int))))))))))) + (2 : Int)), v127)))
       ))))
      )))
     ))))
    ))))))
   )))
  ))

noncomputable def impl_loadSheet_g (v103 : ByteArray) : Option ((ByteArray) ⊕ ((ByteArray × Int × Int × Int) ⊕ (ByteArray × Int × Int × Int × (List Nat)))) := (impl_loadSheet_T v103).run
def impl_loadSheet_enc (v103 : ByteArray) (y : (ByteArray) ⊕ ((ByteArray × Int × Int × Int) ⊕ (ByteArray × Int × Int × Int × (List Nat)))) : Rs := (match y with | .inl y => (.tup [.agg [.str y, .int .i64 (0 : Int), .int .i64 (0 : Int), .nilslc], .int .i64 (0 : Int), .lit false], []) | .inr y => (match y with | .inl y => (.tup [.agg [.str y.1, .int .i64 y.2.1, .int .i64 y.2.2.1, .nilslc], .int .i64 y.2.2.2, .lit true], []) | .inr y => (.tup [.agg [.str y.1, .int .i64 y.2.1, .int .i64 y.2.2.1, .own 0 0 ((y.2.2.2.2).length)], .int .i64 y.2.2.2.1, .lit true], [.row (.f32 y.2.2.2.2) 0])))
theorem impl_loadSheet_den (v103 : ByteArray) : (den TT (tabD impl_loadSheet_tab) (tabM impl_loadSheet_tab) (impl_loadSheet_LO v103) (codeOf Try.f40) ([.str v103] ++ List.replicate (Try.f40.ntmps - ([.str v103] : List DV).length) .undef) []).bind (retD TT Try.f40.results.toList 0) = (impl_loadSheet_T v103).bind fun y => .leaf (impl_loadSheet_enc v103 y) := by kernel_rfl
theorem impl_loadSheet_fn (v103 : ByteArray) (F : Fr) (h0 : St F [] F.H0) (hA : DVs.Ok F [] [.str v103]) {y : (ByteArray) ⊕ ((ByteArray × Int × Int × Int) ⊕ (ByteArray × Int × Int × Int × (List Nat)))} (hy : impl_loadSheet_g v103 = some y) : ∃ F' H', Fwd 0 F F' [] (impl_loadSheet_enc v103 y).2 ∧ FnOk Try.prog 40 (DVs.av F [.str v103]) F.H0 ((impl_loadSheet_enc v103 y).1.av F') H' ∧ St F' (impl_loadSheet_enc v103 y).2 H' ∧ (impl_loadSheet_enc v103 y).1.Ok F' (impl_loadSheet_enc v103 y).2 :=
  fn_fin tok impl_loadSheet_hO mixed Try.func40 Try.call40 (by kernel_rfl) (LoopsOk_eq (l := [(0, bodyOf Try.f40 0)]) (by kernel_rfl) ⟨impl_loadSheet_l0_ok v103, trivial⟩) (impl_loadSheet_den v103) hy h0 hA
noncomputable def impl_loadSheet_F : DFn := fun args L =>
  match args with
  | [.str v103] =>
    .call (impl_loadSheet_g v103) fun y => .sum y (fun y0 => .leaf (.tup [.agg [.str y0, .int .i64 (0 : Int), .int .i64 (0 : Int), .nilslc], .int .i64 (0 : Int), .lit false], L)) (fun z0 => .sum z0 (fun y1 => .leaf (.tup [.agg [.str y1.1, .int .i64 y1.2.1, .int .i64 y1.2.2.1, .nilslc], .int .i64 y1.2.2.2, .lit true], L)) (fun z1 => .leaf (.tup [.agg [.str z1.1, .int .i64 z1.2.1, .int .i64 z1.2.2.1, .own (L.length + 0) 0 ((z1.2.2.2.2).length)], .int .i64 z1.2.2.2.1, .lit true], L ++ [.row (.f32 z1.2.2.2.2) 0])))
  | _ => .fail
theorem impl_loadSheet_Fok : COk Try.prog 40 impl_loadSheet_F true := by
  intro F L H args r L' hs ha hr
  unfold impl_loadSheet_F at hr
  split at hr
  · rename_i v103
    simp only [Tree.run] at hr
    obtain ⟨y, hy, hr⟩ := Option.bind_eq_some_iff.1 hr
    cases y with
    | inl y =>
      simp only [Tree.run, Option.some.injEq, Prod.mk.injEq] at hr
      obtain ⟨rfl, rfl⟩ := hr
      exact call_ok0 hs (fun k => (([] : List AV)[k]?).getD .top) [.str v103] [.str v103] (fun F' h0 hi hρ => ⟨by simp [DVs.av, DV.av, BR.av, hρ], impl_loadSheet_fn v103 F' (st_nil hi) ⟨trivial, trivial⟩ hy⟩) rfl
    | inr y =>
      cases y with
      | inl y =>
        simp only [Tree.run, Option.some.injEq, Prod.mk.injEq] at hr
        obtain ⟨rfl, rfl⟩ := hr
        exact call_ok0 hs (fun k => (([] : List AV)[k]?).getD .top) [.str v103] [.str v103] (fun F' h0 hi hρ => ⟨by simp [DVs.av, DV.av, BR.av, hρ], impl_loadSheet_fn v103 F' (st_nil hi) ⟨trivial, trivial⟩ hy⟩) rfl
      | inr y =>
        simp only [Tree.run, Option.some.injEq, Prod.mk.injEq] at hr
        obtain ⟨rfl, rfl⟩ := hr
        exact call_ok1 hs (fun k => (([] : List AV)[k]?).getD .top) [.str v103] [.str v103] (fun F' h0 hi hρ => ⟨by simp [DVs.av, DV.av, BR.av, hρ], impl_loadSheet_fn v103 F' (st_nil hi) ⟨trivial, trivial⟩ hy⟩) rfl rfl
  · cases hr
/-! impl.RecoverSheets -/
noncomputable def impl_RecoverSheets_l0_T (v101 : ByteArray) (s : Int × (List ByteArray) × (List Int) × (List Int) × (List (List Nat)) × (List Nat)) : Tree ((Int × (List ByteArray) × (List Int) × (List Int) × (List (List Nat)) × (List Nat)) ⊕ (Int × (List ByteArray) × (List Int) × (List Int) × (List (List Nat)) × (List Nat))) :=
  (.br (decide ((((s.2.1).length : Nat) : Int) < (8 : Int))) (
   (.grd (sok s.1 ((v101.size : Nat) : Int) v101.size) <|
   (.call (impl_loadSheet_g (ByteArray.extract v101 (Int.toNat s.1) (Int.toNat ((v101.size : Nat) : Int)))) fun v232 =>
   (.sum v232 (fun v233 =>
    .leaf (.inr (s.1, s.2.1, s.2.2.1, s.2.2.2.1, s.2.2.2.2.1, s.2.2.2.2.2))
   ) (fun v234 =>
    (.sum v234 (fun v235 =>
     (.grd (fits (((s.2.1).length) + (1 : Nat))) <|
     .leaf (.inl (IntKind.i64.wrap (s.1 + v235.2.2.2), s.2.1 ++ ([v235.1] : List ByteArray), s.2.2.1 ++ ([v235.2.1] : List Int), s.2.2.2.1 ++ ([v235.2.2.1] : List Int), s.2.2.2.2.1 ++ ([] : List (List Nat)), s.2.2.2.2.2 ++ [0])))
    ) (fun v236 =>
     (.grd (fits (((s.2.1).length) + (1 : Nat))) <|
     .leaf (.inl (IntKind.i64.wrap (s.1 + v236.2.2.2.1), s.2.1 ++ ([v236.1] : List ByteArray), s.2.2.1 ++ ([v236.2.1] : List Int), s.2.2.2.1 ++ ([v236.2.2.1] : List Int), s.2.2.2.2.1 ++ ([v236.2.2.2.2] : List (List Nat)), s.2.2.2.2.2 ++ [s.2.2.2.2.1.length + 1])))
    ))
   ))))
  ) (
   .leaf (.inr (s.1, s.2.1, s.2.2.1, s.2.2.2.1, s.2.2.2.2.1, s.2.2.2.2.2))
  ))

noncomputable def impl_RecoverSheets_l0_g (v101 : ByteArray) (s0 : Int × (List ByteArray) × (List Int) × (List Int) × (List (List Nat)) × (List Nat)) : Option (Int × (List ByteArray) × (List Int) × (List Int) × (List (List Nat)) × (List Nat)) := whileM (fun s => (impl_RecoverSheets_l0_T v101 s).run) s0
def impl_RecoverSheets_l0_E (v101 : ByteArray) (s : Int × (List ByteArray) × (List Int) × (List Int) × (List (List Nat)) × (List Nat)) : Sd := ([.str v101,tp,tp,tp,tp,.nest 0 0 4 ((s.2.1).length),.int .i64 s.1,tp,tp,tp,tp,tp,tp,tp,tp,tp,tp,tp,tp,tp,tp,tp,tp,tp,tp,tp,tp,tp,tp,tp,tp,tp,tp], [.nest [.pl (.str s.2.1), .pl (.i64 s.2.2.1), .pl (.i64 s.2.2.2.1), .sl (.f32 s.2.2.2.2.1) s.2.2.2.2.2] false 0])
def impl_RecoverSheets_l0_X (v101 : ByteArray) (x : Int × (List ByteArray) × (List Int) × (List Int) × (List (List Nat)) × (List Nat)) : Out := (.normal, [tp,tp,tp,tp,tp,.nest 0 0 4 ((x.2.1).length),.int .i64 x.1,tp,tp,tp,tp,tp,tp,tp,tp,tp,tp,tp,tp,tp,tp,tp,tp,tp,tp,tp,tp,tp,tp,tp,tp,tp,tp], [.nest [.pl (.str x.2.1), .pl (.i64 x.2.2.1), .pl (.i64 x.2.2.2.1), .sl (.f32 x.2.2.2.2.1) x.2.2.2.2.2] false 0])
def impl_RecoverSheets_l0_kill : List Nat := KL true [0,1,4,2,26]
def impl_RecoverSheets_l0_nx : Exit → List Nat
  | .exit 0 => KL true [5,2,26]
  | .ret => KL true [2,3,28]
  | _ => []
noncomputable def impl_RecoverSheets_LO (v101 : ByteArray) : LOr := fun id e L =>
  match id with
  | 0 => .need (normA 0 impl_RecoverSheets_l0_kill e L = some (impl_RecoverSheets_l0_E v101 ((gI (vAt e 6)), (gCS L (vAt e 5) 0), (gCI L (vAt e 5) 1), (gCI L (vAt e 5) 2), (gPF L (vAt e 5) 3), (gX L (vAt e 5) 3)))) (.call (impl_RecoverSheets_l0_g v101 ((gI (vAt e 6)), (gCS L (vAt e 5) 0), (gCI L (vAt e 5) 1), (gCI L (vAt e 5) 2), (gPF L (vAt e 5) 3), (gX L (vAt e 5) 3))) fun x => .leaf (impl_RecoverSheets_l0_X v101 x))
  | _ => .fail
noncomputable def impl_RecoverSheets_tab : List (FuncId × DFn × Bool) := [(40, impl_loadSheet_F, true)]
theorem impl_RecoverSheets_hO : OrcOk Try.prog (tabD impl_RecoverSheets_tab) (tabM impl_RecoverSheets_tab) := tabD_cons impl_loadSheet_Fok (tabD_nil _)
theorem impl_RecoverSheets_l0_be (v101 : ByteArray) (s : Int × (List ByteArray) × (List Int) × (List Int) × (List (List Nat)) × (List Nat)) : bodyT TT (tabD impl_RecoverSheets_tab) (tabM impl_RecoverSheets_tab) (impl_RecoverSheets_LO v101) 0 impl_RecoverSheets_l0_kill impl_RecoverSheets_l0_nx (bodyOf Try.f26 0) 0 (impl_RecoverSheets_l0_E v101 s) = (impl_RecoverSheets_l0_T v101 s).bind fun y => .leaf (outS (impl_RecoverSheets_l0_E v101) (impl_RecoverSheets_l0_X v101) y) := by kernel_rfl
theorem impl_RecoverSheets_l0_ok (v101 : ByteArray) : LSound Try.prog 0 (impl_RecoverSheets_LO v101) 0 (bodyOf Try.f26 0) := by
  intro e L out h
  exact lo_ok (E := impl_RecoverSheets_l0_E v101) (gT := impl_RecoverSheets_l0_T v101) (X := impl_RecoverSheets_l0_X v101) (s0 := ((gI (vAt e 6)), (gCS L (vAt e 5) 0), (gCI L (vAt e 5) 1), (gCI L (vAt e 5) 2), (gPF L (vAt e 5) 3), (gX L (vAt e 5) 3))) tok impl_RecoverSheets_hO mixed (LoopsOk_eq (l := []) (by kernel_rfl) trivial) (impl_RecoverSheets_l0_be v101) rfl (by intro x; rfl) h
noncomputable def impl_RecoverSheets_T (v101 : ByteArray) : Tree (Int × (List ByteArray) × (List Int) × (List Int) × (List (List Nat)) × (List Nat)) :=
  (.need (some (impl_RecoverSheets_l0_E v101 ((0 : Int), ([] : List ByteArray), ([] : List Int), ([] : List Int), ([] : List (List Nat)), ([] : List Nat))) = some (impl_RecoverSheets_l0_E v101 ((0 : Int), ([] : List ByteArray), ([] : List Int), ([] : List Int), ([] : List (List Nat)), ([] : List Nat)))) <|
  (.call (impl_RecoverSheets_l0_g v101 ((0 : Int), ([] : List ByteArray), ([] : List Int), ([] : List Int), ([] : List (List Nat)), ([] : List Nat))) fun v237 =>
  .leaf (v237.1, v237.2.1, v237.2.2.1, v237.2.2.2.1, v237.2.2.2.2.1, v237.2.2.2.2.2)))

noncomputable def impl_RecoverSheets_g (v101 : ByteArray) : Option (Int × (List ByteArray) × (List Int) × (List Int) × (List (List Nat)) × (List Nat)) := (impl_RecoverSheets_T v101).run
def impl_RecoverSheets_enc (v101 : ByteArray) (y : Int × (List ByteArray) × (List Int) × (List Int) × (List (List Nat)) × (List Nat)) : Rs := (.tup [.nest 0 0 4 ((y.2.1).length), .int .i64 y.1, .lit true], [.nest [.pl (.str y.2.1), .pl (.i64 y.2.2.1), .pl (.i64 y.2.2.2.1), .sl (.f32 y.2.2.2.2.1) y.2.2.2.2.2] false 0])
theorem impl_RecoverSheets_den (v101 : ByteArray) : (den TT (tabD impl_RecoverSheets_tab) (tabM impl_RecoverSheets_tab) (impl_RecoverSheets_LO v101) (codeOf Try.f26) ([.str v101] ++ List.replicate (Try.f26.ntmps - ([.str v101] : List DV).length) .undef) []).bind (retD TT Try.f26.results.toList 0) = (impl_RecoverSheets_T v101).bind fun y => .leaf (impl_RecoverSheets_enc v101 y) := by kernel_rfl
theorem impl_RecoverSheets_fn (v101 : ByteArray) (F : Fr) (h0 : St F [] F.H0) (hA : DVs.Ok F [] [.str v101]) {y : Int × (List ByteArray) × (List Int) × (List Int) × (List (List Nat)) × (List Nat)} (hy : impl_RecoverSheets_g v101 = some y) : ∃ F' H', Fwd 0 F F' [] (impl_RecoverSheets_enc v101 y).2 ∧ FnOk Try.prog 26 (DVs.av F [.str v101]) F.H0 ((impl_RecoverSheets_enc v101 y).1.av F') H' ∧ St F' (impl_RecoverSheets_enc v101 y).2 H' ∧ (impl_RecoverSheets_enc v101 y).1.Ok F' (impl_RecoverSheets_enc v101 y).2 :=
  fn_fin tok impl_RecoverSheets_hO mixed Try.func26 Try.call26 (by kernel_rfl) (LoopsOk_eq (l := [(0, bodyOf Try.f26 0)]) (by kernel_rfl) ⟨impl_RecoverSheets_l0_ok v101, trivial⟩) (impl_RecoverSheets_den v101) hy h0 hA
noncomputable def impl_RecoverSheets_F : DFn := fun args L =>
  match args with
  | [.str v101] =>
    .call (impl_RecoverSheets_g v101) fun y => .leaf (.tup [.nest (L.length + 0) 0 4 ((y.2.1).length), .int .i64 y.1, .lit true], L ++ [.nest [.pl (.str y.2.1), .pl (.i64 y.2.2.1), .pl (.i64 y.2.2.2.1), .sl (.f32 y.2.2.2.2.1) y.2.2.2.2.2] false 0])
  | _ => .fail
theorem impl_RecoverSheets_Fok : COk Try.prog 26 impl_RecoverSheets_F true := by
  intro F L H args r L' hs ha hr
  unfold impl_RecoverSheets_F at hr
  split at hr
  · rename_i v101
    simp only [Tree.run] at hr
    obtain ⟨y, hy, hr⟩ := Option.bind_eq_some_iff.1 hr
    simp only [Tree.run, Option.some.injEq, Prod.mk.injEq] at hr
    obtain ⟨rfl, rfl⟩ := hr
    exact call_ok1 hs (fun k => (([] : List AV)[k]?).getD .top) [.str v101] [.str v101] (fun F' h0 hi hρ => ⟨by simp [DVs.av, DV.av, BR.av, hρ], impl_RecoverSheets_fn v101 F' (st_nil hi) ⟨trivial, trivial⟩ hy⟩) rfl rfl
  · cases hr
/-! laws.sameFloat -/
noncomputable def laws_sameFloat_LO (v267 : Nat) (v268 : Nat) : LOr := fun id e L =>
  match id with
  | _ => .fail
noncomputable def laws_sameFloat_tab : List (FuncId × DFn × Bool) := []
theorem laws_sameFloat_hO : OrcOk Try.prog (tabD laws_sameFloat_tab) (tabM laws_sameFloat_tab) := tabD_nil _
noncomputable def laws_sameFloat_T (v267 : Nat) (v268 : Nat) : Tree (Bool) :=
  (.br (!feq .f64 v267 v267) (
   (.br (!feq .f64 v267 v267) (
    .leaf (!feq .f64 v268 v268)
   ) (
    .leaf false
   ))
  ) (
   (.br (!feq .f64 v268 v268) (
    (.br (!feq .f64 v267 v267) (
     .leaf (!feq .f64 v268 v268)
    ) (
     .leaf false
    ))
   ) (
    (.br (feq .f64 v267 (0 : Nat)) (
     (.br (feq .f64 v268 (0 : Nat)) (
      .leaf ((fgrt .f64 (fdiv .f64 (4607182418800017408 : Nat) v267) (0 : Nat)) == (fgrt .f64 (fdiv .f64 (4607182418800017408 : Nat) v268) (0 : Nat)))
     ) (
      .leaf (feq .f64 v267 v268)
     ))
    ) (
     .leaf (feq .f64 v267 v268)
    ))
   ))
  ))

noncomputable def laws_sameFloat_g (v267 : Nat) (v268 : Nat) : Option (Bool) := (laws_sameFloat_T v267 v268).run
def laws_sameFloat_enc (v267 : Nat) (v268 : Nat) (y : Bool) : Rs := (.bool y, [])
theorem laws_sameFloat_den (v267 : Nat) (v268 : Nat) : (den TT (tabD laws_sameFloat_tab) (tabM laws_sameFloat_tab) (laws_sameFloat_LO v267 v268) (codeOf Try.f85) ([.flt .f64 v267, .flt .f64 v268] ++ List.replicate (Try.f85.ntmps - ([.flt .f64 v267, .flt .f64 v268] : List DV).length) .undef) []).bind (retD TT Try.f85.results.toList 0) = (laws_sameFloat_T v267 v268).bind fun y => .leaf (laws_sameFloat_enc v267 v268 y) := by kernel_rfl
theorem laws_sameFloat_fn (v267 : Nat) (v268 : Nat) (F : Fr) (h0 : St F [] F.H0) (hA : DVs.Ok F [] [.flt .f64 v267, .flt .f64 v268]) {y : Bool} (hy : laws_sameFloat_g v267 v268 = some y) : ∃ F' H', Fwd 0 F F' [] (laws_sameFloat_enc v267 v268 y).2 ∧ FnOk Try.prog 85 (DVs.av F [.flt .f64 v267, .flt .f64 v268]) F.H0 ((laws_sameFloat_enc v267 v268 y).1.av F') H' ∧ St F' (laws_sameFloat_enc v267 v268 y).2 H' ∧ (laws_sameFloat_enc v267 v268 y).1.Ok F' (laws_sameFloat_enc v267 v268 y).2 :=
  fn_fin tok laws_sameFloat_hO mixed Try.func85 Try.call85 (by kernel_rfl) (LoopsOk_eq (l := []) (by kernel_rfl) trivial) (laws_sameFloat_den v267 v268) hy h0 hA
def laws_sameFloat_v (v267 : Nat) (v268 : Nat) : Bool :=
  if (!feq .f64 v267 v267) = true then (
   if (!feq .f64 v267 v267) = true then (
    !feq .f64 v268 v268
   ) else (
    false
   )
  ) else (
   if (!feq .f64 v268 v268) = true then (
    if (!feq .f64 v267 v267) = true then (
     !feq .f64 v268 v268
    ) else (
     false
    )
   ) else (
    if (feq .f64 v267 (0 : Nat)) = true then (
     if (feq .f64 v268 (0 : Nat)) = true then (
      (fgrt .f64 (fdiv .f64 (4607182418800017408 : Nat) v267) (0 : Nat)) == (fgrt .f64 (fdiv .f64 (4607182418800017408 : Nat) v268) (0 : Nat))
     ) else (
      feq .f64 v267 v268
     )
    ) else (
     feq .f64 v267 v268
    )
   )
  )
theorem laws_sameFloat_tot (v267 : Nat) (v268 : Nat) : laws_sameFloat_g v267 v268 = some (laws_sameFloat_v v267 v268) := by
  unfold laws_sameFloat_g laws_sameFloat_T laws_sameFloat_v
  simp only [Tree.run]
  repeat' (first | rfl | split)
noncomputable def laws_sameFloat_F : DFn := fun args L =>
  match args with
  | [.flt .f64 v267, .flt .f64 v268] =>
    .leaf (.bool (laws_sameFloat_v v267 v268), L)
  | _ => .fail
theorem laws_sameFloat_Fok : COk Try.prog 85 laws_sameFloat_F true := by
  intro F L H args r L' hs ha hr
  unfold laws_sameFloat_F at hr
  split at hr
  · rename_i v267 v268
    have hy := laws_sameFloat_tot v267 v268
    generalize laws_sameFloat_v v267 v268 = y at hy hr
    simp only [Tree.run, Option.some.injEq, Prod.mk.injEq] at hr
    obtain ⟨rfl, rfl⟩ := hr
    exact call_ok0 hs (fun k => (([] : List AV)[k]?).getD .top) [.flt .f64 v267, .flt .f64 v268] [.flt .f64 v267, .flt .f64 v268] (fun F' h0 hi hρ => ⟨by simp [DVs.av, DV.av, BR.av, hρ], laws_sameFloat_fn v267 v268 F' (st_nil hi) ⟨trivial, trivial, trivial⟩ hy⟩) rfl
  · cases hr
/-! laws.eqFloat32S -/
noncomputable def laws_eqFloat32S_l0_T (v264 : List Nat) (v265 : List Nat) (s : Int) : Tree ((Int) ⊕ ((Unit) ⊕ (Unit))) :=
  (.br (decide (s < ((v264.length : Nat) : Int))) (
   (.grd (inb s v264.length) <|
   (.grd (inb s v265.length) <|
   (.br (!(laws_sameFloat_v (wid (nth v264 (Int.toNat s))) (wid (nth v265 (Int.toNat s))))) (
    .leaf (.inr (.inl ()))
   ) (
    .leaf (.inl (IntKind.i64.wrap (s + (1 : Int))))
   ))))
  ) (
   .leaf (.inr (.inr ()))
  ))

noncomputable def laws_eqFloat32S_l0_g (v264 : List Nat) (v265 : List Nat) (s0 : Int) : Option ((Unit) ⊕ (Unit)) := whileM (fun s => (laws_eqFloat32S_l0_T v264 v265 s).run) s0
def laws_eqFloat32S_l0_E (v264 : List Nat) (v265 : List Nat) (s : Int) : Sd := ([.bslc (BR.root 0) (.f32 v264),.bslc (BR.root 1) (.f32 v265),tp,tp,tp,.int .i64 s,tp,tp,tp,tp,tp,tp,tp,tp,tp,tp,tp,tp,tp,tp,tp,tp,tp,tp,tp,tp,tp,tp,tp], [])
def laws_eqFloat32S_l0_X (v264 : List Nat) (v265 : List Nat) (x : (Unit) ⊕ (Unit)) : Out := (match x with | .inl x => (.ret, [tp,tp,tp,tp,.lit false,tp,tp,tp,tp,tp,tp,tp,tp,tp,tp,tp,tp,tp,tp,tp,tp,tp,tp,tp,tp,tp,tp,tp,tp], []) | .inr x => (.normal, [tp,tp,tp,tp,tp,tp,tp,tp,tp,tp,tp,tp,tp,tp,tp,tp,tp,tp,tp,tp,tp,tp,tp,tp,tp,tp,tp,tp,tp], []))
def laws_eqFloat32S_l0_kill : List Nat := KL true [0,2,3,1,23]
def laws_eqFloat32S_l0_nx : Exit → List Nat
  | .exit 0 => KL true [29]
  | .ret => KL true [4,1,24]
  | _ => []
noncomputable def laws_eqFloat32S_LO (v264 : List Nat) (v265 : List Nat) : LOr := fun id e L =>
  match id with
  | 0 => .need (normA 0 laws_eqFloat32S_l0_kill e L = some (laws_eqFloat32S_l0_E v264 v265 (gI (vAt e 5)))) (.call (laws_eqFloat32S_l0_g v264 v265 (gI (vAt e 5))) fun x => .sum x (fun b0 => .leaf (laws_eqFloat32S_l0_X v264 v265 (.inl b0))) (fun c0 => .leaf (laws_eqFloat32S_l0_X v264 v265 (.inr c0))))
  | _ => .fail
noncomputable def laws_eqFloat32S_tab : List (FuncId × DFn × Bool) := [(85, laws_sameFloat_F, true)]
theorem laws_eqFloat32S_hO : OrcOk Try.prog (tabD laws_eqFloat32S_tab) (tabM laws_eqFloat32S_tab) := tabD_cons laws_sameFloat_Fok (tabD_nil _)
theorem laws_eqFloat32S_l0_be (v264 : List Nat) (v265 : List Nat) (s : Int) : bodyT TT (tabD laws_eqFloat32S_tab) (tabM laws_eqFloat32S_tab) (laws_eqFloat32S_LO v264 v265) 0 laws_eqFloat32S_l0_kill laws_eqFloat32S_l0_nx (bodyOf Try.f68 0) 0 (laws_eqFloat32S_l0_E v264 v265 s) = (laws_eqFloat32S_l0_T v264 v265 s).bind fun y => .leaf (outS (laws_eqFloat32S_l0_E v264 v265) (laws_eqFloat32S_l0_X v264 v265) y) := by kernel_rfl
theorem laws_eqFloat32S_l0_ok (v264 : List Nat) (v265 : List Nat) : LSound Try.prog 0 (laws_eqFloat32S_LO v264 v265) 0 (bodyOf Try.f68 0) := by
  intro e L out h
  exact lo_ok (E := laws_eqFloat32S_l0_E v264 v265) (gT := laws_eqFloat32S_l0_T v264 v265) (X := laws_eqFloat32S_l0_X v264 v265) (s0 := (gI (vAt e 5))) tok laws_eqFloat32S_hO mixed (LoopsOk_eq (l := []) (by kernel_rfl) trivial) (laws_eqFloat32S_l0_be v264 v265) rfl (by intro x; (cases x with | inl b => rfl | inr x => exact rfl)) h
noncomputable def laws_eqFloat32S_T (v264 : List Nat) (v265 : List Nat) : Tree (Bool) :=
  (.br (!decide (((v264.length : Nat) : Int) = ((v265.length : Nat) : Int))) (
   .leaf false
  ) (
   (.need (some (laws_eqFloat32S_l0_E v264 v265 (0 : Int)) = some (laws_eqFloat32S_l0_E v264 v265 (0 : Int))) <|
   (.call (laws_eqFloat32S_l0_g v264 v265 (0 : Int)) fun v271 =>
   (.sum v271 (fun v272 =>
    .leaf false
   ) (fun v273 =>
    .leaf true
   ))))
  ))

noncomputable def laws_eqFloat32S_g (v264 : List Nat) (v265 : List Nat) : Option (Bool) := (laws_eqFloat32S_T v264 v265).run
def laws_eqFloat32S_enc (v264 : List Nat) (v265 : List Nat) (y : Bool) : Rs := (.bool y, [])
theorem laws_eqFloat32S_den (v264 : List Nat) (v265 : List Nat) : (den TT (tabD laws_eqFloat32S_tab) (tabM laws_eqFloat32S_tab) (laws_eqFloat32S_LO v264 v265) (codeOf Try.f68) ([.bslc (BR.root 0) (.f32 v264), .bslc (BR.root 1) (.f32 v265)] ++ List.replicate (Try.f68.ntmps - ([.bslc (BR.root 0) (.f32 v264), .bslc (BR.root 1) (.f32 v265)] : List DV).length) .undef) []).bind (retD TT Try.f68.results.toList 0) = (laws_eqFloat32S_T v264 v265).bind fun y => .leaf (laws_eqFloat32S_enc v264 v265 y) := by kernel_rfl
theorem laws_eqFloat32S_fn (v264 : List Nat) (v265 : List Nat) (F : Fr) (h0 : St F [] F.H0) (hA : DVs.Ok F [] [.bslc (BR.root 0) (.f32 v264), .bslc (BR.root 1) (.f32 v265)]) {y : Bool} (hy : laws_eqFloat32S_g v264 v265 = some y) : ∃ F' H', Fwd 0 F F' [] (laws_eqFloat32S_enc v264 v265 y).2 ∧ FnOk Try.prog 68 (DVs.av F [.bslc (BR.root 0) (.f32 v264), .bslc (BR.root 1) (.f32 v265)]) F.H0 ((laws_eqFloat32S_enc v264 v265 y).1.av F') H' ∧ St F' (laws_eqFloat32S_enc v264 v265 y).2 H' ∧ (laws_eqFloat32S_enc v264 v265 y).1.Ok F' (laws_eqFloat32S_enc v264 v265 y).2 :=
  fn_fin tok laws_eqFloat32S_hO mixed Try.func68 Try.call68 (by kernel_rfl) (LoopsOk_eq (l := [(0, bodyOf Try.f68 0)]) (by kernel_rfl) ⟨laws_eqFloat32S_l0_ok v264 v265, trivial⟩) (laws_eqFloat32S_den v264 v265) hy h0 hA
noncomputable def laws_eqFloat32S_F : DFn := fun args L =>
  match args with
  | [a1, a2] =>
    optT (rowF32 L a1) fun v264 =>
    optT (rowF32 L a2) fun v265 =>
    .call (laws_eqFloat32S_g v264 v265) fun y => .leaf (.bool y, L)
  | _ => .fail
theorem laws_eqFloat32S_Fok : COk Try.prog 68 laws_eqFloat32S_F true := by
  intro F L H args r L' hs ha hr
  unfold laws_eqFloat32S_F at hr
  split at hr
  · rename_i a1 a2
    obtain ⟨v264, hv264, hr⟩ := optT_run hr
    obtain ⟨v265, hv265, hr⟩ := optT_run hr
    simp only [Tree.run] at hr
    obtain ⟨y, hy, hr⟩ := Option.bind_eq_some_iff.1 hr
    simp only [Tree.run, Option.some.injEq, Prod.mk.injEq] at hr
    obtain ⟨rfl, rfl⟩ := hr
    exact call_ok0 hs (fun k => (([a1.av F, a2.av F] : List AV)[k]?).getD .top) [a1, a2] [.bslc (BR.root 0) (.f32 v264), .bslc (BR.root 1) (.f32 v265)] (fun F' h0 hi hρ => ⟨by simp [DVs.av, DV.av, BR.av, hρ], laws_eqFloat32S_fn v264 v265 F' (st_nil hi) ⟨bslc_ok hi (by rw [h0, hρ]; exact rowF32_ok hs (DVs.okAt ha 0 rfl) hv264), bslc_ok hi (by rw [h0, hρ]; exact rowF32_ok hs (DVs.okAt ha 1 rfl) hv265), trivial⟩ hy⟩) rfl
  · cases hr
/-! laws.eqMatrix -/
noncomputable def laws_eqMatrix_LO (v258 : Int) (v259 : Int) (v260 : List Nat) (v261 : Int) (v262 : Int) (v263 : List Nat) : LOr := fun id e L =>
  match id with
  | _ => .fail
noncomputable def laws_eqMatrix_tab : List (FuncId × DFn × Bool) := [(68, laws_eqFloat32S_F, true)]
theorem laws_eqMatrix_hO : OrcOk Try.prog (tabD laws_eqMatrix_tab) (tabM laws_eqMatrix_tab) := tabD_cons laws_eqFloat32S_Fok (tabD_nil _)
noncomputable def laws_eqMatrix_T (v258 : Int) (v259 : Int) (v260 : List Nat) (v261 : Int) (v262 : Int) (v263 : List Nat) : Tree (Bool) :=
  (.br (!decide (v258 = v261)) (
   .leaf false
  ) (
   (.br (!decide (v259 = v262)) (
    .leaf false
   ) (
    (.call (laws_eqFloat32S_g v260 v263) fun v274 =>
    (.br (!v274) (
     .leaf false
    ) (
     .leaf true
    )))
   ))
  ))

noncomputable def laws_eqMatrix_g (v258 : Int) (v259 : Int) (v260 : List Nat) (v261 : Int) (v262 : Int) (v263 : List Nat) : Option (Bool) := (laws_eqMatrix_T v258 v259 v260 v261 v262 v263).run
def laws_eqMatrix_enc (v258 : Int) (v259 : Int) (v260 : List Nat) (v261 : Int) (v262 : Int) (v263 : List Nat) (y : Bool) : Rs := (.bool y, [])
theorem laws_eqMatrix_den (v258 : Int) (v259 : Int) (v260 : List Nat) (v261 : Int) (v262 : Int) (v263 : List Nat) : (den TT (tabD laws_eqMatrix_tab) (tabM laws_eqMatrix_tab) (laws_eqMatrix_LO v258 v259 v260 v261 v262 v263) (codeOf Try.f38) ([.agg [.int .i64 v258, .int .i64 v259, .bslc (BR.root 0) (.f32 v260)], .agg [.int .i64 v261, .int .i64 v262, .bslc (BR.root 1) (.f32 v263)]] ++ List.replicate (Try.f38.ntmps - ([.agg [.int .i64 v258, .int .i64 v259, .bslc (BR.root 0) (.f32 v260)], .agg [.int .i64 v261, .int .i64 v262, .bslc (BR.root 1) (.f32 v263)]] : List DV).length) .undef) []).bind (retD TT Try.f38.results.toList 0) = (laws_eqMatrix_T v258 v259 v260 v261 v262 v263).bind fun y => .leaf (laws_eqMatrix_enc v258 v259 v260 v261 v262 v263 y) := by kernel_rfl
theorem laws_eqMatrix_fn (v258 : Int) (v259 : Int) (v260 : List Nat) (v261 : Int) (v262 : Int) (v263 : List Nat) (F : Fr) (h0 : St F [] F.H0) (hA : DVs.Ok F [] [.agg [.int .i64 v258, .int .i64 v259, .bslc (BR.root 0) (.f32 v260)], .agg [.int .i64 v261, .int .i64 v262, .bslc (BR.root 1) (.f32 v263)]]) {y : Bool} (hy : laws_eqMatrix_g v258 v259 v260 v261 v262 v263 = some y) : ∃ F' H', Fwd 0 F F' [] (laws_eqMatrix_enc v258 v259 v260 v261 v262 v263 y).2 ∧ FnOk Try.prog 38 (DVs.av F [.agg [.int .i64 v258, .int .i64 v259, .bslc (BR.root 0) (.f32 v260)], .agg [.int .i64 v261, .int .i64 v262, .bslc (BR.root 1) (.f32 v263)]]) F.H0 ((laws_eqMatrix_enc v258 v259 v260 v261 v262 v263 y).1.av F') H' ∧ St F' (laws_eqMatrix_enc v258 v259 v260 v261 v262 v263 y).2 H' ∧ (laws_eqMatrix_enc v258 v259 v260 v261 v262 v263 y).1.Ok F' (laws_eqMatrix_enc v258 v259 v260 v261 v262 v263 y).2 :=
  fn_fin tok laws_eqMatrix_hO mixed Try.func38 Try.call38 (by kernel_rfl) (LoopsOk_eq (l := []) (by kernel_rfl) trivial) (laws_eqMatrix_den v258 v259 v260 v261 v262 v263) hy h0 hA
noncomputable def laws_eqMatrix_F : DFn := fun args L =>
  match args with
  | [.agg [.int .i64 v258, .int .i64 v259, a1], .agg [.int .i64 v261, .int .i64 v262, a2]] =>
    optT (rowF32 L a1) fun v260 =>
    optT (rowF32 L a2) fun v263 =>
    .call (laws_eqMatrix_g v258 v259 v260 v261 v262 v263) fun y => .leaf (.bool y, L)
  | _ => .fail
theorem laws_eqMatrix_Fok : COk Try.prog 38 laws_eqMatrix_F true := by
  intro F L H args r L' hs ha hr
  unfold laws_eqMatrix_F at hr
  split at hr
  · rename_i v258 v259 a1 v261 v262 a2
    obtain ⟨v260, hv260, hr⟩ := optT_run hr
    obtain ⟨v263, hv263, hr⟩ := optT_run hr
    simp only [Tree.run] at hr
    obtain ⟨y, hy, hr⟩ := Option.bind_eq_some_iff.1 hr
    simp only [Tree.run, Option.some.injEq, Prod.mk.injEq] at hr
    obtain ⟨rfl, rfl⟩ := hr
    exact call_ok0 hs (fun k => (([a1.av F, a2.av F] : List AV)[k]?).getD .top) [.agg [.int .i64 v258, .int .i64 v259, a1], .agg [.int .i64 v261, .int .i64 v262, a2]] [.agg [.int .i64 v258, .int .i64 v259, .bslc (BR.root 0) (.f32 v260)], .agg [.int .i64 v261, .int .i64 v262, .bslc (BR.root 1) (.f32 v263)]] (fun F' h0 hi hρ => ⟨by simp [DVs.av, DV.av, BR.av, hρ], laws_eqMatrix_fn v258 v259 v260 v261 v262 v263 F' (st_nil hi) ⟨⟨trivial, trivial, bslc_ok hi (by rw [h0, hρ]; exact rowF32_ok hs (DVs.okAt (DVs.okAt ha 0 rfl) 2 rfl) hv260), trivial⟩, ⟨trivial, trivial, bslc_ok hi (by rw [h0, hρ]; exact rowF32_ok hs (DVs.okAt (DVs.okAt ha 1 rfl) 2 rfl) hv263), trivial⟩, trivial⟩ hy⟩) rfl
  · cases hr
/-! laws.eqSheet -/
noncomputable def laws_eqSheet_LO (v250 : ByteArray) (v251 : Int) (v252 : Int) (v253 : List Nat) (v254 : ByteArray) (v255 : Int) (v256 : Int) (v257 : List Nat) : LOr := fun id e L =>
  match id with
  | _ => .fail
noncomputable def laws_eqSheet_tab : List (FuncId × DFn × Bool) := [(38, laws_eqMatrix_F, true)]
theorem laws_eqSheet_hO : OrcOk Try.prog (tabD laws_eqSheet_tab) (tabM laws_eqSheet_tab) := tabD_cons laws_eqMatrix_Fok (tabD_nil _)
noncomputable def laws_eqSheet_T (v250 : ByteArray) (v251 : Int) (v252 : Int) (v253 : List Nat) (v254 : ByteArray) (v255 : Int) (v256 : Int) (v257 : List Nat) : Tree (Bool) :=
  (.br (!(v250.toList == v254.toList)) (
   .leaf false
  ) (
   (.call (laws_eqMatrix_g v251 v252 v253 v255 v256 v257) fun v275 =>
   (.br (!v275) (
    .leaf false
   ) (
    .leaf true
   )))
  ))

noncomputable def laws_eqSheet_g (v250 : ByteArray) (v251 : Int) (v252 : Int) (v253 : List Nat) (v254 : ByteArray) (v255 : Int) (v256 : Int) (v257 : List Nat) : Option (Bool) := (laws_eqSheet_T v250 v251 v252 v253 v254 v255 v256 v257).run
def laws_eqSheet_enc (v250 : ByteArray) (v251 : Int) (v252 : Int) (v253 : List Nat) (v254 : ByteArray) (v255 : Int) (v256 : Int) (v257 : List Nat) (y : Bool) : Rs := (.bool y, [])
theorem laws_eqSheet_den (v250 : ByteArray) (v251 : Int) (v252 : Int) (v253 : List Nat) (v254 : ByteArray) (v255 : Int) (v256 : Int) (v257 : List Nat) : (den TT (tabD laws_eqSheet_tab) (tabM laws_eqSheet_tab) (laws_eqSheet_LO v250 v251 v252 v253 v254 v255 v256 v257) (codeOf Try.f13) ([.agg [.str v250, .int .i64 v251, .int .i64 v252, .bslc (BR.root 0) (.f32 v253)], .agg [.str v254, .int .i64 v255, .int .i64 v256, .bslc (BR.root 1) (.f32 v257)]] ++ List.replicate (Try.f13.ntmps - ([.agg [.str v250, .int .i64 v251, .int .i64 v252, .bslc (BR.root 0) (.f32 v253)], .agg [.str v254, .int .i64 v255, .int .i64 v256, .bslc (BR.root 1) (.f32 v257)]] : List DV).length) .undef) []).bind (retD TT Try.f13.results.toList 0) = (laws_eqSheet_T v250 v251 v252 v253 v254 v255 v256 v257).bind fun y => .leaf (laws_eqSheet_enc v250 v251 v252 v253 v254 v255 v256 v257 y) := by kernel_rfl
theorem laws_eqSheet_fn (v250 : ByteArray) (v251 : Int) (v252 : Int) (v253 : List Nat) (v254 : ByteArray) (v255 : Int) (v256 : Int) (v257 : List Nat) (F : Fr) (h0 : St F [] F.H0) (hA : DVs.Ok F [] [.agg [.str v250, .int .i64 v251, .int .i64 v252, .bslc (BR.root 0) (.f32 v253)], .agg [.str v254, .int .i64 v255, .int .i64 v256, .bslc (BR.root 1) (.f32 v257)]]) {y : Bool} (hy : laws_eqSheet_g v250 v251 v252 v253 v254 v255 v256 v257 = some y) : ∃ F' H', Fwd 0 F F' [] (laws_eqSheet_enc v250 v251 v252 v253 v254 v255 v256 v257 y).2 ∧ FnOk Try.prog 13 (DVs.av F [.agg [.str v250, .int .i64 v251, .int .i64 v252, .bslc (BR.root 0) (.f32 v253)], .agg [.str v254, .int .i64 v255, .int .i64 v256, .bslc (BR.root 1) (.f32 v257)]]) F.H0 ((laws_eqSheet_enc v250 v251 v252 v253 v254 v255 v256 v257 y).1.av F') H' ∧ St F' (laws_eqSheet_enc v250 v251 v252 v253 v254 v255 v256 v257 y).2 H' ∧ (laws_eqSheet_enc v250 v251 v252 v253 v254 v255 v256 v257 y).1.Ok F' (laws_eqSheet_enc v250 v251 v252 v253 v254 v255 v256 v257 y).2 :=
  fn_fin tok laws_eqSheet_hO mixed Try.func13 Try.call13 (by kernel_rfl) (LoopsOk_eq (l := []) (by kernel_rfl) trivial) (laws_eqSheet_den v250 v251 v252 v253 v254 v255 v256 v257) hy h0 hA
noncomputable def laws_eqSheet_F : DFn := fun args L =>
  match args with
  | [.agg [.str v250, .int .i64 v251, .int .i64 v252, a1], .agg [.str v254, .int .i64 v255, .int .i64 v256, a2]] =>
    optT (rowF32 L a1) fun v253 =>
    optT (rowF32 L a2) fun v257 =>
    .call (laws_eqSheet_g v250 v251 v252 v253 v254 v255 v256 v257) fun y => .leaf (.bool y, L)
  | _ => .fail
theorem laws_eqSheet_Fok : COk Try.prog 13 laws_eqSheet_F true := by
  intro F L H args r L' hs ha hr
  unfold laws_eqSheet_F at hr
  split at hr
  · rename_i v250 v251 v252 a1 v254 v255 v256 a2
    obtain ⟨v253, hv253, hr⟩ := optT_run hr
    obtain ⟨v257, hv257, hr⟩ := optT_run hr
    simp only [Tree.run] at hr
    obtain ⟨y, hy, hr⟩ := Option.bind_eq_some_iff.1 hr
    simp only [Tree.run, Option.some.injEq, Prod.mk.injEq] at hr
    obtain ⟨rfl, rfl⟩ := hr
    exact call_ok0 hs (fun k => (([a1.av F, a2.av F] : List AV)[k]?).getD .top) [.agg [.str v250, .int .i64 v251, .int .i64 v252, a1], .agg [.str v254, .int .i64 v255, .int .i64 v256, a2]] [.agg [.str v250, .int .i64 v251, .int .i64 v252, .bslc (BR.root 0) (.f32 v253)], .agg [.str v254, .int .i64 v255, .int .i64 v256, .bslc (BR.root 1) (.f32 v257)]] (fun F' h0 hi hρ => ⟨by simp [DVs.av, DV.av, BR.av, hρ], laws_eqSheet_fn v250 v251 v252 v253 v254 v255 v256 v257 F' (st_nil hi) ⟨⟨trivial, trivial, trivial, bslc_ok hi (by rw [h0, hρ]; exact rowF32_ok hs (DVs.okAt (DVs.okAt ha 0 rfl) 3 rfl) hv253), trivial⟩, ⟨trivial, trivial, trivial, bslc_ok hi (by rw [h0, hρ]; exact rowF32_ok hs (DVs.okAt (DVs.okAt ha 1 rfl) 3 rfl) hv257), trivial⟩, trivial⟩ hy⟩) rfl
  · cases hr
/-! laws.eqSheetS -/
noncomputable def laws_eqSheetS_nst_l0_T (v239 : List ByteArray) (v240 : List Int) (v241 : List Int) (v242 : List (List Nat)) (v243 : List Nat) (v244 : List ByteArray) (v245 : List Int) (v246 : List Int) (v247 : List (List Nat)) (v248 : List Nat) (s : Int) : Tree ((Int) ⊕ ((Unit) ⊕ (Unit))) :=
  (.br (decide (s < (((v239).length : Nat) : Int))) (
   (.grd (inb s ((v239).length)) <|
   (.grd (inb s ((v244).length)) <|
   (.call (laws_eqSheet_g (nth v239 (Int.toNat s)) (nth v240 (Int.toNat s)) (nth v241 (Int.toNat s)) (nget v242 (nth v243 (Int.toNat s))) (nth v244 (Int.toNat s)) (nth v245 (Int.toNat s)) (nth v246 (Int.toNat s)) (nget v247 (nth v248 (Int.toNat s)))) fun v280 =>
   (.br (!v280) (
    .leaf (.inr (.inl ()))
   ) (
    .leaf (.inl (IntKind.i64.wrap (s + (1 : Int))))
   )))))
  ) (
   .leaf (.inr (.inr ()))
  ))

noncomputable def laws_eqSheetS_nst_l0_g (v239 : List ByteArray) (v240 : List Int) (v241 : List Int) (v242 : List (List Nat)) (v243 : List Nat) (v244 : List ByteArray) (v245 : List Int) (v246 : List Int) (v247 : List (List Nat)) (v248 : List Nat) (s0 : Int) : Option ((Unit) ⊕ (Unit)) := whileM (fun s => (laws_eqSheetS_nst_l0_T v239 v240 v241 v242 v243 v244 v245 v246 v247 v248 s).run) s0
def laws_eqSheetS_nst_l0_E (v239 : List ByteArray) (v240 : List Int) (v241 : List Int) (v242 : List (List Nat)) (v243 : List Nat) (v244 : List ByteArray) (v245 : List Int) (v246 : List Int) (v247 : List (List Nat)) (v248 : List Nat) (s : Int) : Sd := ([.nest 0 0 4 ((v239).length),.nest 1 0 4 ((v244).length),tp,tp,tp,.int .i64 s,tp,tp,tp,tp,tp,tp,tp,tp,tp,tp,tp,tp,tp,tp,tp,tp,tp,tp,tp,tp,tp], [.nest [.pl (.str v239), .pl (.i64 v240), .pl (.i64 v241), .sl (.f32 v242) v243] false 0, .nest [.pl (.str v244), .pl (.i64 v245), .pl (.i64 v246), .sl (.f32 v247) v248] false 0])
def laws_eqSheetS_nst_l0_X (v239 : List ByteArray) (v240 : List Int) (v241 : List Int) (v242 : List (List Nat)) (v243 : List Nat) (v244 : List ByteArray) (v245 : List Int) (v246 : List Int) (v247 : List (List Nat)) (v248 : List Nat) (x : (Unit) ⊕ (Unit)) : Out := (match x with | .inl x => (.ret, [tp,tp,tp,tp,.lit false,tp,tp,tp,tp,tp,tp,tp,tp,tp,tp,tp,tp,tp,tp,tp,tp,tp,tp,tp,tp,tp,tp], [.nest [.pl (.str v239), .pl (.i64 v240), .pl (.i64 v241), .sl (.f32 v242) v243] false 0, .nest [.pl (.str v244), .pl (.i64 v245), .pl (.i64 v246), .sl (.f32 v247) v248] false 0]) | .inr x => (.normal, [tp,tp,tp,tp,tp,tp,tp,tp,tp,tp,tp,tp,tp,tp,tp,tp,tp,tp,tp,tp,tp,tp,tp,tp,tp,tp,tp], [.nest [.pl (.str v239), .pl (.i64 v240), .pl (.i64 v241), .sl (.f32 v242) v243] false 0, .nest [.pl (.str v244), .pl (.i64 v245), .pl (.i64 v246), .sl (.f32 v247) v248] false 0]))
def laws_eqSheetS_nst_l0_kill : List Nat := KL true [0,2,3,1,21]
def laws_eqSheetS_nst_l0_nx : Exit → List Nat
  | .exit 0 => KL true [27]
  | .ret => KL true [4,1,22]
  | _ => []
noncomputable def laws_eqSheetS_nst_LO (v239 : List ByteArray) (v240 : List Int) (v241 : List Int) (v242 : List (List Nat)) (v243 : List Nat) (v244 : List ByteArray) (v245 : List Int) (v246 : List Int) (v247 : List (List Nat)) (v248 : List Nat) : LOr := fun id e L =>
  match id with
  | 0 => .need (normA 2 laws_eqSheetS_nst_l0_kill e L = some (laws_eqSheetS_nst_l0_E v239 v240 v241 v242 v243 v244 v245 v246 v247 v248 (gI (vAt e 5)))) (.call (laws_eqSheetS_nst_l0_g v239 v240 v241 v242 v243 v244 v245 v246 v247 v248 (gI (vAt e 5))) fun x => .sum x (fun b0 => .leaf (laws_eqSheetS_nst_l0_X v239 v240 v241 v242 v243 v244 v245 v246 v247 v248 (.inl b0))) (fun c0 => .leaf (laws_eqSheetS_nst_l0_X v239 v240 v241 v242 v243 v244 v245 v246 v247 v248 (.inr c0))))
  | _ => .fail
noncomputable def laws_eqSheetS_nst_tab : List (FuncId × DFn × Bool) := [(13, laws_eqSheet_F, true)]
theorem laws_eqSheetS_nst_hO : OrcOk Try.prog (tabD laws_eqSheetS_nst_tab) (tabM laws_eqSheetS_nst_tab) := tabD_cons laws_eqSheet_Fok (tabD_nil _)
theorem laws_eqSheetS_nst_l0_be (v239 : List ByteArray) (v240 : List Int) (v241 : List Int) (v242 : List (List Nat)) (v243 : List Nat) (v244 : List ByteArray) (v245 : List Int) (v246 : List Int) (v247 : List (List Nat)) (v248 : List Nat) (s : Int) : bodyT TT (tabD laws_eqSheetS_nst_tab) (tabM laws_eqSheetS_nst_tab) (laws_eqSheetS_nst_LO v239 v240 v241 v242 v243 v244 v245 v246 v247 v248) 2 laws_eqSheetS_nst_l0_kill laws_eqSheetS_nst_l0_nx (bodyOf Try.f22 0) 0 (laws_eqSheetS_nst_l0_E v239 v240 v241 v242 v243 v244 v245 v246 v247 v248 s) = (laws_eqSheetS_nst_l0_T v239 v240 v241 v242 v243 v244 v245 v246 v247 v248 s).bind fun y => .leaf (outS (laws_eqSheetS_nst_l0_E v239 v240 v241 v242 v243 v244 v245 v246 v247 v248) (laws_eqSheetS_nst_l0_X v239 v240 v241 v242 v243 v244 v245 v246 v247 v248) y) := by kernel_rfl
theorem laws_eqSheetS_nst_l0_ok (v239 : List ByteArray) (v240 : List Int) (v241 : List Int) (v242 : List (List Nat)) (v243 : List Nat) (v244 : List ByteArray) (v245 : List Int) (v246 : List Int) (v247 : List (List Nat)) (v248 : List Nat) : LSound Try.prog 2 (laws_eqSheetS_nst_LO v239 v240 v241 v242 v243 v244 v245 v246 v247 v248) 0 (bodyOf Try.f22 0) := by
  intro e L out h
  exact lo_ok (E := laws_eqSheetS_nst_l0_E v239 v240 v241 v242 v243 v244 v245 v246 v247 v248) (gT := laws_eqSheetS_nst_l0_T v239 v240 v241 v242 v243 v244 v245 v246 v247 v248) (X := laws_eqSheetS_nst_l0_X v239 v240 v241 v242 v243 v244 v245 v246 v247 v248) (s0 := (gI (vAt e 5))) tok laws_eqSheetS_nst_hO mixed (LoopsOk_eq (l := []) (by kernel_rfl) trivial) (laws_eqSheetS_nst_l0_be v239 v240 v241 v242 v243 v244 v245 v246 v247 v248) rfl (by intro x; (cases x with | inl b => rfl | inr x => exact rfl)) h
noncomputable def laws_eqSheetS_nst_T (v239 : List ByteArray) (v240 : List Int) (v241 : List Int) (v242 : List (List Nat)) (v243 : List Nat) (v244 : List ByteArray) (v245 : List Int) (v246 : List Int) (v247 : List (List Nat)) (v248 : List Nat) : Tree (Bool) :=
  (.br (!decide ((((v239).length : Nat) : Int) = (((v244).length : Nat) : Int))) (
   .leaf false
  ) (
   (.need (some (laws_eqSheetS_nst_l0_E v239 v240 v241 v242 v243 v244 v245 v246 v247 v248 (0 : Int)) = some (laws_eqSheetS_nst_l0_E v239 v240 v241 v242 v243 v244 v245 v246 v247 v248 (0 : Int))) <|
   (.call (laws_eqSheetS_nst_l0_g v239 v240 v241 v242 v243 v244 v245 v246 v247 v248 (0 : Int)) fun v281 =>
   (.sum v281 (fun v282 =>
    .leaf false
   ) (fun v283 =>
    .leaf true
   ))))
  ))

noncomputable def laws_eqSheetS_nst_g (v239 : List ByteArray) (v240 : List Int) (v241 : List Int) (v242 : List (List Nat)) (v243 : List Nat) (v244 : List ByteArray) (v245 : List Int) (v246 : List Int) (v247 : List (List Nat)) (v248 : List Nat) : Option (Bool) := (laws_eqSheetS_nst_T v239 v240 v241 v242 v243 v244 v245 v246 v247 v248).run
def laws_eqSheetS_nst_enc (v239 : List ByteArray) (v240 : List Int) (v241 : List Int) (v242 : List (List Nat)) (v243 : List Nat) (v244 : List ByteArray) (v245 : List Int) (v246 : List Int) (v247 : List (List Nat)) (v248 : List Nat) (y : Bool) : Rs := (.bool y, [.nest [.pl (.str v239), .pl (.i64 v240), .pl (.i64 v241), .sl (.f32 v242) v243] false 0, .nest [.pl (.str v244), .pl (.i64 v245), .pl (.i64 v246), .sl (.f32 v247) v248] false 0])
theorem laws_eqSheetS_nst_den (v239 : List ByteArray) (v240 : List Int) (v241 : List Int) (v242 : List (List Nat)) (v243 : List Nat) (v244 : List ByteArray) (v245 : List Int) (v246 : List Int) (v247 : List (List Nat)) (v248 : List Nat) : (den TT (tabD laws_eqSheetS_nst_tab) (tabM laws_eqSheetS_nst_tab) (laws_eqSheetS_nst_LO v239 v240 v241 v242 v243 v244 v245 v246 v247 v248) (codeOf Try.f22) ([.nest 0 0 4 ((v239).length), .nest 1 0 4 ((v244).length)] ++ List.replicate (Try.f22.ntmps - ([.nest 0 0 4 ((v239).length), .nest 1 0 4 ((v244).length)] : List DV).length) .undef) [.nest [.pl (.str v239), .pl (.i64 v240), .pl (.i64 v241), .sl (.f32 v242) v243] false 0, .nest [.pl (.str v244), .pl (.i64 v245), .pl (.i64 v246), .sl (.f32 v247) v248] false 0]).bind (retD TT Try.f22.results.toList 2) = (laws_eqSheetS_nst_T v239 v240 v241 v242 v243 v244 v245 v246 v247 v248).bind fun y => .leaf (laws_eqSheetS_nst_enc v239 v240 v241 v242 v243 v244 v245 v246 v247 v248 y) := by kernel_rfl
theorem laws_eqSheetS_nst_fn (v239 : List ByteArray) (v240 : List Int) (v241 : List Int) (v242 : List (List Nat)) (v243 : List Nat) (v244 : List ByteArray) (v245 : List Int) (v246 : List Int) (v247 : List (List Nat)) (v248 : List Nat) (F : Fr) (h0 : St F [.nest [.pl (.str v239), .pl (.i64 v240), .pl (.i64 v241), .sl (.f32 v242) v243] false 0, .nest [.pl (.str v244), .pl (.i64 v245), .pl (.i64 v246), .sl (.f32 v247) v248] false 0] F.H0) (hA : DVs.Ok F [.nest [.pl (.str v239), .pl (.i64 v240), .pl (.i64 v241), .sl (.f32 v242) v243] false 0, .nest [.pl (.str v244), .pl (.i64 v245), .pl (.i64 v246), .sl (.f32 v247) v248] false 0] [.nest 0 0 4 ((v239).length), .nest 1 0 4 ((v244).length)]) {y : Bool} (hy : laws_eqSheetS_nst_g v239 v240 v241 v242 v243 v244 v245 v246 v247 v248 = some y) : ∃ F' H', Fwd 2 F F' [.nest [.pl (.str v239), .pl (.i64 v240), .pl (.i64 v241), .sl (.f32 v242) v243] false 0, .nest [.pl (.str v244), .pl (.i64 v245), .pl (.i64 v246), .sl (.f32 v247) v248] false 0] (laws_eqSheetS_nst_enc v239 v240 v241 v242 v243 v244 v245 v246 v247 v248 y).2 ∧ FnOk Try.prog 22 (DVs.av F [.nest 0 0 4 ((v239).length), .nest 1 0 4 ((v244).length)]) F.H0 ((laws_eqSheetS_nst_enc v239 v240 v241 v242 v243 v244 v245 v246 v247 v248 y).1.av F') H' ∧ St F' (laws_eqSheetS_nst_enc v239 v240 v241 v242 v243 v244 v245 v246 v247 v248 y).2 H' ∧ (laws_eqSheetS_nst_enc v239 v240 v241 v242 v243 v244 v245 v246 v247 v248 y).1.Ok F' (laws_eqSheetS_nst_enc v239 v240 v241 v242 v243 v244 v245 v246 v247 v248 y).2 :=
  fn_fin tok laws_eqSheetS_nst_hO mixed Try.func22 Try.call22 (by kernel_rfl) (LoopsOk_eq (l := [(0, bodyOf Try.f22 0)]) (by kernel_rfl) ⟨laws_eqSheetS_nst_l0_ok v239 v240 v241 v242 v243 v244 v245 v246 v247 v248, trivial⟩) (laws_eqSheetS_nst_den v239 v240 v241 v242 v243 v244 v245 v246 v247 v248) hy h0 hA
noncomputable def laws_eqSheetS_nst_F : DFn := fun args L =>
  match args with
  | [a1, a2] =>
    optT (nestN L false 4 a1) fun qn0 =>
    (match qn0.2 with
    | [.pl (.str v239), .pl (.i64 v240), .pl (.i64 v241), .sl (.f32 v242) v243] =>
    optT (nestN L false 4 a2) fun qn1 =>
    (match qn1.2 with
    | [.pl (.str v244), .pl (.i64 v245), .pl (.i64 v246), .sl (.f32 v247) v248] =>
    (match sepB [qn0.1, qn1.1] [] with
    | true =>
    .call (laws_eqSheetS_nst_g v239 v240 v241 v242 v243 v244 v245 v246 v247 v248) fun y => .grd (decide ((v239).length = (v239).length)) (.grd (decide ((v244).length = (v244).length)) (.leaf (.bool y, setB L [(qn0.1, .nest [.pl (.str v239), .pl (.i64 v240), .pl (.i64 v241), .sl (.f32 v242) v243] false (verAt L qn0.1)), (qn1.1, .nest [.pl (.str v244), .pl (.i64 v245), .pl (.i64 v246), .sl (.f32 v247) v248] false (verAt L qn1.1))] ++ [])))
    | false => .fail)
    | _ => .fail)
    | _ => .fail)
  | _ => .fail
theorem laws_eqSheetS_nst_Fok : COk Try.prog 22 laws_eqSheetS_nst_F false := by
  intro F L H args r L' hs ha hr
  unfold laws_eqSheetS_nst_F at hr
  split at hr
  · rename_i a1 a2
    obtain ⟨⟨jn0, cn0⟩, hn0, hr⟩ := optT_run hr
    simp only at hr
    split at hr
    · rename_i v239 v240 v241 v242 v243
      obtain ⟨hne0, hnu0, hnl0, hnv0, hnm0, hno0⟩ := nestN_spec hs (DVs.okAt ha 0 rfl) hn0
      obtain ⟨⟨jn1, cn1⟩, hn1, hr⟩ := optT_run hr
      simp only at hr
      split at hr
      · rename_i v244 v245 v246 v247 v248
        obtain ⟨hne1, hnu1, hnl1, hnv1, hnm1, hno1⟩ := nestN_spec hs (DVs.okAt ha 1 rfl) hn1
        split at hr
        · rename_i hsep
          obtain ⟨hnd, hsepv⟩ := sepB_spec hsep
          simp only [Tree.run] at hr
          obtain ⟨y, hy, hr⟩ := Option.bind_eq_some_iff.1 hr
          try simp only [Tree.run] at hr
          obtain ⟨hl0, hr⟩ := ite_run hr
          obtain ⟨hl1, hr⟩ := ite_run hr
          simp only [Option.some.injEq, Prod.mk.injEq] at hr
          obtain ⟨rfl, rfl⟩ := hr
          exact mutG_ok hs [a1, a2] ⟨(DVs.okAt ha 0 rfl), (DVs.okAt ha 1 rfl), trivial⟩ [a1, a2] [.nest 0 0 4 ((v239).length), .nest 1 0 4 ((v244).length)] [jn0, jn1] [verAt L jn0, verAt L jn1] [.nest [.pl (.str v239), .pl (.i64 v240), .pl (.i64 v241), .sl (.f32 v242) v243] false 0, .nest [.pl (.str v244), .pl (.i64 v245), .pl (.i64 v246), .sl (.f32 v247) v248] false 0] [.nest [.pl (.str v239), .pl (.i64 v240), .pl (.i64 v241), .sl (.f32 v242) v243] false 0, .nest [.pl (.str v244), .pl (.i64 v245), .pl (.i64 v246), .sl (.f32 v247) v248] false 0] [.nest [.pl (.str v239), .pl (.i64 v240), .pl (.i64 v241), .sl (.f32 v242) v243] false (verAt L jn0), .nest [.pl (.str v244), .pl (.i64 v245), .pl (.i64 v246), .sl (.f32 v247) v248] false (verAt L jn1)] [] hnd rfl rfl (fun j hj => by
              simp at hj
              rcases hj with rfl | rfl
              · exact ex_nest hne0
              · exact ex_nest hne1) (fun j hj => by
              simp at hj
              rcases hj with rfl | rfl
              · exact reach_refs (by simp [DVs.refs, DV.refs, hnu0])
              · exact reach_refs (by simp [DVs.refs, DV.refs, hnu1])) (fun F' h0 hρ ab hpl hS => by
              have ab0 := ab 0 _ rfl; have ab1 := ab 1 _ rfl;
              have hnx0 : a1.av F = (.nest 0 0 4 ((v239).length) : DV).av F' := nestN_av (hpl 0 _ rfl) hnv0
              have hnx1 : a2.av F = (.nest 1 0 4 ((v244).length) : DV).av F' := nestN_av (hpl 1 _ rfl) hnv1
              refine ⟨fun i j b' h1 h2 => ?_, by simp [DBlk.blk, DVs.av, DV.av, BR.av, hρ, Row.len, hnx0, hnx1, ab0, ab0, ab1, ab1], fun hst => laws_eqSheetS_nst_fn v239 v240 v241 v242 v243 v244 v245 v246 v247 v248 F' hst ⟨(nest_ok0 (i := 0) rfl rfl hnm0), (nest_ok0 (i := 1) rfl rfl hnm1), trivial⟩ hy⟩
              rcases i with _ | _ | i
              · simp at h1 h2; subst h1; subst h2; obtain ⟨ver_, hv_⟩ := hne0; exact ⟨_, hv_, .nest _ _ _ _, nest_blk (hpl 0 _ rfl) _ _ _ _, hno0 _ _⟩
              · simp at h1 h2; subst h1; subst h2; obtain ⟨ver_, hv_⟩ := hne1; exact ⟨_, hv_, .nest _ _ _ _, nest_blk (hpl 1 _ rfl) _ _ _ _, hno1 _ _⟩
              · simp at h1) rfl rfl (fun i j b b' h1 h2 h3 => by
              rcases i with _ | _ | i
              · simp at h1; subst h1; cases h3; exact growN hne0 (by first | exact of_decide_eq_true hl0 | rfl) rfl h2
              · simp at h1; subst h1; cases h3; exact growN hne1 (by first | exact of_decide_eq_true hl1 | rfl) rfl h2
              · simp at h1)
        · cases hr
      · cases hr
    · cases hr
  · cases hr
/-! laws.markText -/
noncomputable def laws_markText_l0_T (s : Int × ByteArray) : Tree ((Int × ByteArray) ⊕ (ByteArray)) :=
  (.br (decide ((0 : Int) < s.1)) (
   (.grd (!decide ((10 : Int) = 0)) <|
   (.grd (fits ((strOfNums ([IntKind.u8.wrap (IntKind.i64.wrap ((48 : Int) + (Int.tmod s.1 (10 : Int))))] : List Int)).size + s.2.size)) <|
   (.grd (!decide ((10 : Int) = 0)) <|
   .leaf (.inl (IntKind.i64.wrap (Int.tdiv s.1 (10 : Int)), (strOfNums ([IntKind.u8.wrap (IntKind.i64.wrap ((48 : Int) + (Int.tmod s.1 (10 : Int))))] : List Int)) ++ s.2)))))
  ) (
   .leaf (.inr s.2)
  ))

noncomputable def laws_markText_l0_g (s0 : Int × ByteArray) : Option (ByteArray) := whileM (fun s => (laws_markText_l0_T s).run) s0
def laws_markText_l0_E (v293 : Int) (s : Int × ByteArray) : Sd := ([.int .i64 s.1,tp,tp,.str s.2,tp,tp,tp,tp,tp,tp,tp,tp,tp,tp,tp,tp,tp,tp,tp,tp], [])
def laws_markText_l0_X (v293 : Int) (x : ByteArray) : Out := (.normal, [tp,tp,tp,.str x,tp,tp,tp,tp,tp,tp,tp,tp,tp,tp,tp,tp,tp,tp,tp,tp], [])
def laws_markText_l0_kill : List Nat := KL true [0,1,2,1,16]
def laws_markText_l0_nx : Exit → List Nat
  | .exit 0 => KL true [3,1,16]
  | .ret => KL true [2,1,17]
  | _ => []
noncomputable def laws_markText_LO (v293 : Int) : LOr := fun id e L =>
  match id with
  | 0 => .need (normA 0 laws_markText_l0_kill e L = some (laws_markText_l0_E v293 ((gI (vAt e 0)), (gS (vAt e 3))))) (.call (laws_markText_l0_g ((gI (vAt e 0)), (gS (vAt e 3)))) fun x => .leaf (laws_markText_l0_X v293 x))
  | _ => .fail
noncomputable def laws_markText_tab : List (FuncId × DFn × Bool) := []
theorem laws_markText_hO : OrcOk Try.prog (tabD laws_markText_tab) (tabM laws_markText_tab) := tabD_nil _
theorem laws_markText_l0_be (v293 : Int) (s : Int × ByteArray) : bodyT TT (tabD laws_markText_tab) (tabM laws_markText_tab) (laws_markText_LO v293) 0 laws_markText_l0_kill laws_markText_l0_nx (bodyOf Try.f50 0) 0 (laws_markText_l0_E v293 s) = (laws_markText_l0_T s).bind fun y => .leaf (outS (laws_markText_l0_E v293) (laws_markText_l0_X v293) y) := by kernel_rfl
theorem laws_markText_l0_ok (v293 : Int) : LSound Try.prog 0 (laws_markText_LO v293) 0 (bodyOf Try.f50 0) := by
  intro e L out h
  exact lo_ok (E := laws_markText_l0_E v293) (gT := laws_markText_l0_T) (X := laws_markText_l0_X v293) (s0 := ((gI (vAt e 0)), (gS (vAt e 3)))) tok laws_markText_hO mixed (LoopsOk_eq (l := []) (by kernel_rfl) trivial) (laws_markText_l0_be v293) rfl (by intro x; rfl) h
noncomputable def laws_markText_T (v293 : Int) : Tree (ByteArray) :=
  (.br (decide (v293 ≤ (0 : Int))) (
   .leaf (ByteArray.mk #[109, 48])
  ) (
   (.need (some (laws_markText_l0_E v293 (v293, (ByteArray.mk #[]))) = some (laws_markText_l0_E v293 (v293, (ByteArray.mk #[])))) <|
   (.call (laws_markText_l0_g (v293, (ByteArray.mk #[]))) fun v300 =>
   (.grd (fits ((ByteArray.mk #[109]).size + v300.size)) <|
   .leaf ((ByteArray.mk #[109]) ++ v300))))
  ))

noncomputable def laws_markText_g (v293 : Int) : Option (ByteArray) := (laws_markText_T v293).run
def laws_markText_enc (v293 : Int) (y : ByteArray) : Rs := (.str y, [])
theorem laws_markText_den (v293 : Int) : (den TT (tabD laws_markText_tab) (tabM laws_markText_tab) (laws_markText_LO v293) (codeOf Try.f50) ([.int .i64 v293] ++ List.replicate (Try.f50.ntmps - ([.int .i64 v293] : List DV).length) .undef) []).bind (retD TT Try.f50.results.toList 0) = (laws_markText_T v293).bind fun y => .leaf (laws_markText_enc v293 y) := by kernel_rfl
theorem laws_markText_fn (v293 : Int) (F : Fr) (h0 : St F [] F.H0) (hA : DVs.Ok F [] [.int .i64 v293]) {y : ByteArray} (hy : laws_markText_g v293 = some y) : ∃ F' H', Fwd 0 F F' [] (laws_markText_enc v293 y).2 ∧ FnOk Try.prog 50 (DVs.av F [.int .i64 v293]) F.H0 ((laws_markText_enc v293 y).1.av F') H' ∧ St F' (laws_markText_enc v293 y).2 H' ∧ (laws_markText_enc v293 y).1.Ok F' (laws_markText_enc v293 y).2 :=
  fn_fin tok laws_markText_hO mixed Try.func50 Try.call50 (by kernel_rfl) (LoopsOk_eq (l := [(0, bodyOf Try.f50 0)]) (by kernel_rfl) ⟨laws_markText_l0_ok v293, trivial⟩) (laws_markText_den v293) hy h0 hA
noncomputable def laws_markText_F : DFn := fun args L =>
  match args with
  | [.int .i64 v293] =>
    .call (laws_markText_g v293) fun y => .leaf (.str y, L)
  | _ => .fail
theorem laws_markText_Fok : COk Try.prog 50 laws_markText_F true := by
  intro F L H args r L' hs ha hr
  unfold laws_markText_F at hr
  split at hr
  · rename_i v293
    simp only [Tree.run] at hr
    obtain ⟨y, hy, hr⟩ := Option.bind_eq_some_iff.1 hr
    simp only [Tree.run, Option.some.injEq, Prod.mk.injEq] at hr
    obtain ⟨rfl, rfl⟩ := hr
    exact call_ok0 hs (fun k => (([] : List AV)[k]?).getD .top) [.int .i64 v293] [.int .i64 v293] (fun F' h0 hi hρ => ⟨by simp [DVs.av, DV.av, BR.av, hρ], laws_markText_fn v293 F' (st_nil hi) ⟨trivial, trivial⟩ hy⟩) rfl
  · cases hr
/-! laws.markFloat32S -/
noncomputable def laws_markFloat32S_nst_l0_T (v322 : Nat) (s : Int × Int × (List (List Nat))) : Tree ((Int × Int × (List (List Nat))) ⊕ (Int × (List (List Nat)))) :=
  (.br (decide (s.2.1 < (((nget s.2.2 v322).length : Nat) : Int))) (
   (.grd (inb s.2.1 ((nget s.2.2 v322).length)) <|
   .leaf (.inl (IntKind.i64.wrap (s.1 + (1 : Int)), IntKind.i64.wrap (s.2.1 + (1 : Int)), List.set s.2.2 (v322 - 1) (List.set (nget s.2.2 v322) (Int.toNat s.2.1) (fofint .f32 s.1)))))
  ) (
   .leaf (.inr (s.1, s.2.2))
  ))

noncomputable def laws_markFloat32S_nst_l0_g (v322 : Nat) (s0 : Int × Int × (List (List Nat))) : Option (Int × (List (List Nat))) := whileM (fun s => (laws_markFloat32S_nst_l0_T v322 s).run) s0
def laws_markFloat32S_nst_l0_E (v317 : List ByteArray) (v318 : List Int) (v319 : List Int) (v320 : List (List Nat)) (v321 : List Nat) (v322 : Nat) (v323 : Int) (s : Int × Int × (List (List Nat))) : Sd := ([.inn 0 3 v322 ((nget s.2.2 v322).length),.int .i64 s.1,tp,tp,tp,.int .i64 s.2.1,tp,tp,tp,tp,tp,tp,tp,tp,tp,tp,tp,tp,tp,tp], [.nest [.pl (.str v317), .pl (.i64 v318), .pl (.i64 v319), .sl (.f32 s.2.2) v321] false 0])
def laws_markFloat32S_nst_l0_X (v317 : List ByteArray) (v318 : List Int) (v319 : List Int) (v320 : List (List Nat)) (v321 : List Nat) (v322 : Nat) (v323 : Int) (x : Int × (List (List Nat))) : Out := (.normal, [tp,.int .i64 x.1,tp,tp,tp,tp,tp,tp,tp,tp,tp,tp,tp,tp,tp,tp,tp,tp,tp,tp], [.nest [.pl (.str v317), .pl (.i64 v318), .pl (.i64 v319), .sl (.f32 x.2) v321] false 0])
def laws_markFloat32S_nst_l0_kill : List Nat := KL true [0,2,3,1,14]
def laws_markFloat32S_nst_l0_nx : Exit → List Nat
  | .exit 0 => KL true [1,1,18]
  | .ret => KL true [4,1,15]
  | _ => []
noncomputable def laws_markFloat32S_nst_LO (v317 : List ByteArray) (v318 : List Int) (v319 : List Int) (v320 : List (List Nat)) (v321 : List Nat) (v322 : Nat) (v323 : Int) : LOr := fun id e L =>
  match id with
  | 0 => .need (normA 1 laws_markFloat32S_nst_l0_kill e L = some (laws_markFloat32S_nst_l0_E v317 v318 v319 v320 v321 v322 v323 ((gI (vAt e 1)), (gI (vAt e 5)), (gPF L (vAt e 0) 3)))) (.call (laws_markFloat32S_nst_l0_g v322 ((gI (vAt e 1)), (gI (vAt e 5)), (gPF L (vAt e 0) 3))) fun x => .leaf (laws_markFloat32S_nst_l0_X v317 v318 v319 v320 v321 v322 v323 x))
  | _ => .fail
noncomputable def laws_markFloat32S_nst_tab : List (FuncId × DFn × Bool) := []
theorem laws_markFloat32S_nst_hO : OrcOk Try.prog (tabD laws_markFloat32S_nst_tab) (tabM laws_markFloat32S_nst_tab) := tabD_nil _
theorem laws_markFloat32S_nst_l0_be (v317 : List ByteArray) (v318 : List Int) (v319 : List Int) (v320 : List (List Nat)) (v321 : List Nat) (v322 : Nat) (v323 : Int) (s : Int × Int × (List (List Nat))) : bodyT TT (tabD laws_markFloat32S_nst_tab) (tabM laws_markFloat32S_nst_tab) (laws_markFloat32S_nst_LO v317 v318 v319 v320 v321 v322 v323) 1 laws_markFloat32S_nst_l0_kill laws_markFloat32S_nst_l0_nx (bodyOf Try.f51 0) 0 (laws_markFloat32S_nst_l0_E v317 v318 v319 v320 v321 v322 v323 s) = (laws_markFloat32S_nst_l0_T v322 s).bind fun y => .leaf (outS (laws_markFloat32S_nst_l0_E v317 v318 v319 v320 v321 v322 v323) (laws_markFloat32S_nst_l0_X v317 v318 v319 v320 v321 v322 v323) y) := by kernel_rfl
theorem laws_markFloat32S_nst_l0_ok (v317 : List ByteArray) (v318 : List Int) (v319 : List Int) (v320 : List (List Nat)) (v321 : List Nat) (v322 : Nat) (v323 : Int) : LSound Try.prog 1 (laws_markFloat32S_nst_LO v317 v318 v319 v320 v321 v322 v323) 0 (bodyOf Try.f51 0) := by
  intro e L out h
  exact lo_ok (E := laws_markFloat32S_nst_l0_E v317 v318 v319 v320 v321 v322 v323) (gT := laws_markFloat32S_nst_l0_T v322) (X := laws_markFloat32S_nst_l0_X v317 v318 v319 v320 v321 v322 v323) (s0 := ((gI (vAt e 1)), (gI (vAt e 5)), (gPF L (vAt e 0) 3))) tok laws_markFloat32S_nst_hO mixed (LoopsOk_eq (l := []) (by kernel_rfl) trivial) (laws_markFloat32S_nst_l0_be v317 v318 v319 v320 v321 v322 v323) rfl (by intro x; rfl) h
noncomputable def laws_markFloat32S_nst_T (v317 : List ByteArray) (v318 : List Int) (v319 : List Int) (v320 : List (List Nat)) (v321 : List Nat) (v322 : Nat) (v323 : Int) : Tree (Int × (List (List Nat))) :=
  (.need (some (laws_markFloat32S_nst_l0_E v317 v318 v319 v320 v321 v322 v323 (v323, (0 : Int), v320)) = some (laws_markFloat32S_nst_l0_E v317 v318 v319 v320 v321 v322 v323 (v323, (0 : Int), v320))) <|
  (.call (laws_markFloat32S_nst_l0_g v322 (v323, (0 : Int), v320)) fun v332 =>
  .leaf (v332.1, v332.2)))

noncomputable def laws_markFloat32S_nst_g (v317 : List ByteArray) (v318 : List Int) (v319 : List Int) (v320 : List (List Nat)) (v321 : List Nat) (v322 : Nat) (v323 : Int) : Option (Int × (List (List Nat))) := (laws_markFloat32S_nst_T v317 v318 v319 v320 v321 v322 v323).run
def laws_markFloat32S_nst_enc (v317 : List ByteArray) (v318 : List Int) (v319 : List Int) (v320 : List (List Nat)) (v321 : List Nat) (v322 : Nat) (v323 : Int) (y : Int × (List (List Nat))) : Rs := (.int .i64 y.1, [.nest [.pl (.str v317), .pl (.i64 v318), .pl (.i64 v319), .sl (.f32 y.2) v321] false 0])
theorem laws_markFloat32S_nst_den (v317 : List ByteArray) (v318 : List Int) (v319 : List Int) (v320 : List (List Nat)) (v321 : List Nat) (v322 : Nat) (v323 : Int) : (den TT (tabD laws_markFloat32S_nst_tab) (tabM laws_markFloat32S_nst_tab) (laws_markFloat32S_nst_LO v317 v318 v319 v320 v321 v322 v323) (codeOf Try.f51) ([.inn 0 3 v322 ((nget v320 v322).length), .int .i64 v323] ++ List.replicate (Try.f51.ntmps - ([.inn 0 3 v322 ((nget v320 v322).length), .int .i64 v323] : List DV).length) .undef) [.nest [.pl (.str v317), .pl (.i64 v318), .pl (.i64 v319), .sl (.f32 v320) v321] false 0]).bind (retD TT Try.f51.results.toList 1) = (laws_markFloat32S_nst_T v317 v318 v319 v320 v321 v322 v323).bind fun y => .leaf (laws_markFloat32S_nst_enc v317 v318 v319 v320 v321 v322 v323 y) := by kernel_rfl
theorem laws_markFloat32S_nst_fn (v317 : List ByteArray) (v318 : List Int) (v319 : List Int) (v320 : List (List Nat)) (v321 : List Nat) (v322 : Nat) (v323 : Int) (F : Fr) (h0 : St F [.nest [.pl (.str v317), .pl (.i64 v318), .pl (.i64 v319), .sl (.f32 v320) v321] false 0] F.H0) (hA : DVs.Ok F [.nest [.pl (.str v317), .pl (.i64 v318), .pl (.i64 v319), .sl (.f32 v320) v321] false 0] [.inn 0 3 v322 ((nget v320 v322).length), .int .i64 v323]) {y : Int × (List (List Nat))} (hy : laws_markFloat32S_nst_g v317 v318 v319 v320 v321 v322 v323 = some y) : ∃ F' H', Fwd 1 F F' [.nest [.pl (.str v317), .pl (.i64 v318), .pl (.i64 v319), .sl (.f32 v320) v321] false 0] (laws_markFloat32S_nst_enc v317 v318 v319 v320 v321 v322 v323 y).2 ∧ FnOk Try.prog 51 (DVs.av F [.inn 0 3 v322 ((nget v320 v322).length), .int .i64 v323]) F.H0 ((laws_markFloat32S_nst_enc v317 v318 v319 v320 v321 v322 v323 y).1.av F') H' ∧ St F' (laws_markFloat32S_nst_enc v317 v318 v319 v320 v321 v322 v323 y).2 H' ∧ (laws_markFloat32S_nst_enc v317 v318 v319 v320 v321 v322 v323 y).1.Ok F' (laws_markFloat32S_nst_enc v317 v318 v319 v320 v321 v322 v323 y).2 :=
  fn_fin tok laws_markFloat32S_nst_hO mixed Try.func51 Try.call51 (by kernel_rfl) (LoopsOk_eq (l := [(0, bodyOf Try.f51 0)]) (by kernel_rfl) ⟨laws_markFloat32S_nst_l0_ok v317 v318 v319 v320 v321 v322 v323, trivial⟩) (laws_markFloat32S_nst_den v317 v318 v319 v320 v321 v322 v323) hy h0 hA
noncomputable def laws_markFloat32S_nst_F : DFn := fun args L =>
  match args with
  | [a1, .int .i64 v323] =>
    optT (nestI L false 4 a1) fun qn0 =>
    (match qn0.2 with
    | [.pl (.str v317), .pl (.i64 v318), .pl (.i64 v319), .sl (.f32 v320) v321] =>
    optT (innK qn0.1 3 a1) fun v322 =>
    (match sepB [qn0.1] [] with
    | true =>
    .call (laws_markFloat32S_nst_g v317 v318 v319 v320 v321 v322 v323) fun y => .grd (decide ((v317).length = (v317).length)) (.leaf (.int .i64 y.1, setB L [(qn0.1, .nest [.pl (.str v317), .pl (.i64 v318), .pl (.i64 v319), .sl (.f32 y.2) v321] false (verAt L qn0.1))] ++ []))
    | false => .fail)
    | _ => .fail)
  | _ => .fail
theorem laws_markFloat32S_nst_Fok : COk Try.prog 51 laws_markFloat32S_nst_F false := by
  intro F L H args r L' hs ha hr
  unfold laws_markFloat32S_nst_F at hr
  split at hr
  · rename_i a1 v323
    obtain ⟨⟨jn0, cn0⟩, hn0, hr⟩ := optT_run hr
    simp only at hr
    split at hr
    · rename_i v317 v318 v319 v320 v321
      obtain ⟨hne0, hnu0, hnl0, hno0⟩ := nestI_spec hs hn0
      obtain ⟨v322, hk0, hr⟩ := optT_run hr
      have hik0 := innK_spec (c := 3) (DVs.okAt ha 0 rfl) hk0 hne0 rfl
      split at hr
      · rename_i hsep
        obtain ⟨hnd, hsepv⟩ := sepB_spec hsep
        simp only [Tree.run] at hr
        obtain ⟨y, hy, hr⟩ := Option.bind_eq_some_iff.1 hr
        try simp only [Tree.run] at hr
        obtain ⟨hl0, hr⟩ := ite_run hr
        simp only [Option.some.injEq, Prod.mk.injEq] at hr
        obtain ⟨rfl, rfl⟩ := hr
        exact mutG_ok hs [a1] ⟨(DVs.okAt ha 0 rfl), trivial⟩ [a1, .int .i64 v323] [.inn 0 3 v322 ((nget v320 v322).length), .int .i64 v323] [jn0] [verAt L jn0] [.nest [.pl (.str v317), .pl (.i64 v318), .pl (.i64 v319), .sl (.f32 v320) v321] false 0] [.nest [.pl (.str v317), .pl (.i64 v318), .pl (.i64 v319), .sl (.f32 y.2) v321] false 0] [.nest [.pl (.str v317), .pl (.i64 v318), .pl (.i64 v319), .sl (.f32 y.2) v321] false (verAt L jn0)] [] hnd rfl rfl (fun j hj => by
            simp at hj
            subst hj; exact ex_nest hne0) (fun j hj => by
            simp at hj
            subst hj; exact reach_refs (by simp [DVs.refs, DV.refs, hnu0])) (fun F' h0 hρ ab hpl hS => by
            have ab0 := ab 0 _ rfl;
            have hnx0 : a1.av F = (.inn 0 3 v322 ((nget v320 v322).length) : DV).av F' := innK_av (hpl 0 _ rfl) hik0.1
            refine ⟨fun i j b' h1 h2 => ?_, by simp [DBlk.blk, DVs.av, DV.av, BR.av, hρ, Row.len, hnx0, ab0, ab0], fun hst => laws_markFloat32S_nst_fn v317 v318 v319 v320 v321 v322 v323 F' hst ⟨(innK_ok (i := 0) rfl rfl hik0.2.1 hik0.2.2), trivial, trivial⟩ hy⟩
            rcases i with _ | i
            · simp at h1 h2; subst h1; subst h2; obtain ⟨ver_, hv_⟩ := hne0; exact ⟨_, hv_, .nest _ _ _ _, nest_blk (hpl 0 _ rfl) _ _ _ _, hno0 _ _⟩
            · simp at h1) rfl rfl (fun i j b b' h1 h2 h3 => by
            rcases i with _ | i
            · simp at h1; subst h1; cases h3; exact growN hne0 (by first | exact of_decide_eq_true hl0 | rfl) rfl h2
            · simp at h1)
      · cases hr
    · cases hr
  · cases hr
/-! laws.markSheetS -/
noncomputable def laws_markSheetS_nst_l0_T (v289 : List Nat) (s : Int × Int × (List ByteArray) × (List Int) × (List Int) × (List (List Nat))) : Tree ((Int × Int × (List ByteArray) × (List Int) × (List Int) × (List (List Nat))) ⊕ (Int × (List ByteArray) × (List Int) × (List Int) × (List (List Nat)))) :=
  (.br (decide (s.2.1 < (((s.2.2.1).length : Nat) : Int))) (
   (.call (laws_markText_g s.1) fun v348 =>
   (.grd (inb s.2.1 ((s.2.2.1).length)) <|
   (.grd (inb s.2.1 ((s.2.2.1).length)) <|
   (.grd (inb s.2.1 ((s.2.2.1).length)) <|
   (.grd (inb s.2.1 ((s.2.2.1).length)) <|
   (.call (laws_markFloat32S_nst_g (List.set s.2.2.1 (Int.toNat s.2.1) v348) (List.set s.2.2.2.1 (Int.toNat s.2.1) (IntKind.i64.wrap (s.1 + (1 : Int)))) (List.set s.2.2.2.2.1 (Int.toNat s.2.1) (IntKind.i64.wrap ((IntKind.i64.wrap (s.1 + (1 : Int))) + (1 : Int)))) s.2.2.2.2.2 v289 (nth v289 (Int.toNat s.2.1)) (IntKind.i64.wrap ((IntKind.i64.wrap ((IntKind.i64.wrap (s.1 + (1 : Int))) + (1 : Int))) + (1 : Int)))) fun v349 =>
   (.grd (decide (((List.set s.2.2.1 (Int.toNat s.2.1) v348)).length = (List.set s.2.2.1 (Int.toNat s.2.1) v348).length)) <|
   .leaf (.inl (v349.1, IntKind.i64.wrap (s.2.1 + (1 : Int)), (List.set s.2.2.1 (Int.toNat s.2.1) v348), (List.set s.2.2.2.1 (Int.toNat s.2.1) (IntKind.i64.wrap (s.1 + (1 : Int)))), (List.set s.2.2.2.2.1 (Int.toNat s.2.1) (IntKind.i64.wrap ((IntKind.i64.wrap (s.1 + (1 : Int))) + (1 : Int)))), v349.2)))))))))
  ) (
   .leaf (.inr (s.1, s.2.2.1, s.2.2.2.1, s.2.2.2.2.1, s.2.2.2.2.2))
  ))

noncomputable def laws_markSheetS_nst_l0_g (v289 : List Nat) (s0 : Int × Int × (List ByteArray) × (List Int) × (List Int) × (List (List Nat))) : Option (Int × (List ByteArray) × (List Int) × (List Int) × (List (List Nat))) := whileM (fun s => (laws_markSheetS_nst_l0_T v289 s).run) s0
def laws_markSheetS_nst_l0_E (v285 : List ByteArray) (v286 : List Int) (v287 : List Int) (v288 : List (List Nat)) (v289 : List Nat) (v290 : Int) (s : Int × Int × (List ByteArray) × (List Int) × (List Int) × (List (List Nat))) : Sd := ([.nest 0 0 4 ((s.2.2.1).length),.int .i64 s.1,tp,tp,tp,.int .i64 s.2.1,tp,tp,tp,tp,tp,tp,tp,tp,tp,tp,tp,tp,tp,tp,tp,tp,tp,tp,tp,tp,tp,tp,tp,tp,tp,tp,tp,tp,tp,tp,tp,tp,tp,tp,tp,tp,tp,tp,tp], [.nest [.pl (.str s.2.2.1), .pl (.i64 s.2.2.2.1), .pl (.i64 s.2.2.2.2.1), .sl (.f32 s.2.2.2.2.2) v289] false 0])
def laws_markSheetS_nst_l0_X (v285 : List ByteArray) (v286 : List Int) (v287 : List Int) (v288 : List (List Nat)) (v289 : List Nat) (v290 : Int) (x : Int × (List ByteArray) × (List Int) × (List Int) × (List (List Nat))) : Out := (.normal, [tp,.int .i64 x.1,tp,tp,tp,tp,tp,tp,tp,tp,tp,tp,tp,tp,tp,tp,tp,tp,tp,tp,tp,tp,tp,tp,tp,tp,tp,tp,tp,tp,tp,tp,tp,tp,tp,tp,tp,tp,tp,tp,tp,tp,tp,tp,tp], [.nest [.pl (.str x.2.1), .pl (.i64 x.2.2.1), .pl (.i64 x.2.2.2.1), .sl (.f32 x.2.2.2.2) v289] false 0])
def laws_markSheetS_nst_l0_kill : List Nat := KL true [0,2,3,1,39]
def laws_markSheetS_nst_l0_nx : Exit → List Nat
  | .exit 0 => KL true [1,1,43]
  | .ret => KL true [4,1,40]
  | _ => []
noncomputable def laws_markSheetS_nst_LO (v285 : List ByteArray) (v286 : List Int) (v287 : List Int) (v288 : List (List Nat)) (v289 : List Nat) (v290 : Int) : LOr := fun id e L =>
  match id with
  | 0 => .need (normA 1 laws_markSheetS_nst_l0_kill e L = some (laws_markSheetS_nst_l0_E v285 v286 v287 v288 v289 v290 ((gI (vAt e 1)), (gI (vAt e 5)), (gCS L (vAt e 0) 0), (gCI L (vAt e 0) 1), (gCI L (vAt e 0) 2), (gPF L (vAt e 0) 3)))) (.call (laws_markSheetS_nst_l0_g v289 ((gI (vAt e 1)), (gI (vAt e 5)), (gCS L (vAt e 0) 0), (gCI L (vAt e 0) 1), (gCI L (vAt e 0) 2), (gPF L (vAt e 0) 3))) fun x => .leaf (laws_markSheetS_nst_l0_X v285 v286 v287 v288 v289 v290 x))
  | _ => .fail
noncomputable def laws_markSheetS_nst_tab : List (FuncId × DFn × Bool) := [(50, laws_markText_F, true), (51, laws_markFloat32S_nst_F, false)]
theorem laws_markSheetS_nst_hO : OrcOk Try.prog (tabD laws_markSheetS_nst_tab) (tabM laws_markSheetS_nst_tab) := tabD_cons laws_markText_Fok (tabD_cons laws_markFloat32S_nst_Fok (tabD_nil _))
theorem laws_markSheetS_nst_l0_be (v285 : List ByteArray) (v286 : List Int) (v287 : List Int) (v288 : List (List Nat)) (v289 : List Nat) (v290 : Int) (s : Int × Int × (List ByteArray) × (List Int) × (List Int) × (List (List Nat))) : bodyT TT (tabD laws_markSheetS_nst_tab) (tabM laws_markSheetS_nst_tab) (laws_markSheetS_nst_LO v285 v286 v287 v288 v289 v290) 1 laws_markSheetS_nst_l0_kill laws_markSheetS_nst_l0_nx (bodyOf Try.f27 0) 0 (laws_markSheetS_nst_l0_E v285 v286 v287 v288 v289 v290 s) = (laws_markSheetS_nst_l0_T v289 s).bind fun y => .leaf (outS (laws_markSheetS_nst_l0_E v285 v286 v287 v288 v289 v290) (laws_markSheetS_nst_l0_X v285 v286 v287 v288 v289 v290) y) := by kernel_rfl
theorem laws_markSheetS_nst_l0_ok (v285 : List ByteArray) (v286 : List Int) (v287 : List Int) (v288 : List (List Nat)) (v289 : List Nat) (v290 : Int) : LSound Try.prog 1 (laws_markSheetS_nst_LO v285 v286 v287 v288 v289 v290) 0 (bodyOf Try.f27 0) := by
  intro e L out h
  exact lo_ok (E := laws_markSheetS_nst_l0_E v285 v286 v287 v288 v289 v290) (gT := laws_markSheetS_nst_l0_T v289) (X := laws_markSheetS_nst_l0_X v285 v286 v287 v288 v289 v290) (s0 := ((gI (vAt e 1)), (gI (vAt e 5)), (gCS L (vAt e 0) 0), (gCI L (vAt e 0) 1), (gCI L (vAt e 0) 2), (gPF L (vAt e 0) 3))) tok laws_markSheetS_nst_hO mixed (LoopsOk_eq (l := []) (by kernel_rfl) trivial) (laws_markSheetS_nst_l0_be v285 v286 v287 v288 v289 v290) rfl (by intro x; rfl) h
noncomputable def laws_markSheetS_nst_T (v285 : List ByteArray) (v286 : List Int) (v287 : List Int) (v288 : List (List Nat)) (v289 : List Nat) (v290 : Int) : Tree (Int × (List ByteArray) × (List Int) × (List Int) × (List (List Nat))) :=
  (.need (some (laws_markSheetS_nst_l0_E v285 v286 v287 v288 v289 v290 (v290, (0 : Int), v285, v286, v287, v288)) = some (laws_markSheetS_nst_l0_E v285 v286 v287 v288 v289 v290 (v290, (0 : Int), v285, v286, v287, v288))) <|
  (.call (laws_markSheetS_nst_l0_g v289 (v290, (0 : Int), v285, v286, v287, v288)) fun v350 =>
  .leaf (v350.1, v350.2.1, v350.2.2.1, v350.2.2.2.1, v350.2.2.2.2)))

noncomputable def laws_markSheetS_nst_g (v285 : List ByteArray) (v286 : List Int) (v287 : List Int) (v288 : List (List Nat)) (v289 : List Nat) (v290 : Int) : Option (Int × (List ByteArray) × (List Int) × (List Int) × (List (List Nat))) := (laws_markSheetS_nst_T v285 v286 v287 v288 v289 v290).run
def laws_markSheetS_nst_enc (v285 : List ByteArray) (v286 : List Int) (v287 : List Int) (v288 : List (List Nat)) (v289 : List Nat) (v290 : Int) (y : Int × (List ByteArray) × (List Int) × (List Int) × (List (List Nat))) : Rs := (.int .i64 y.1, [.nest [.pl (.str y.2.1), .pl (.i64 y.2.2.1), .pl (.i64 y.2.2.2.1), .sl (.f32 y.2.2.2.2) v289] false 0])
theorem laws_markSheetS_nst_den (v285 : List ByteArray) (v286 : List Int) (v287 : List Int) (v288 : List (List Nat)) (v289 : List Nat) (v290 : Int) : (den TT (tabD laws_markSheetS_nst_tab) (tabM laws_markSheetS_nst_tab) (laws_markSheetS_nst_LO v285 v286 v287 v288 v289 v290) (codeOf Try.f27) ([.nest 0 0 4 ((v285).length), .int .i64 v290] ++ List.replicate (Try.f27.ntmps - ([.nest 0 0 4 ((v285).length), .int .i64 v290] : List DV).length) .undef) [.nest [.pl (.str v285), .pl (.i64 v286), .pl (.i64 v287), .sl (.f32 v288) v289] false 0]).bind (retD TT Try.f27.results.toList 1) = (laws_markSheetS_nst_T v285 v286 v287 v288 v289 v290).bind fun y => .leaf (laws_markSheetS_nst_enc v285 v286 v287 v288 v289 v290 y) := by kernel_rfl
theorem laws_markSheetS_nst_fn (v285 : List ByteArray) (v286 : List Int) (v287 : List Int) (v288 : List (List Nat)) (v289 : List Nat) (v290 : Int) (F : Fr) (h0 : St F [.nest [.pl (.str v285), .pl (.i64 v286), .pl (.i64 v287), .sl (.f32 v288) v289] false 0] F.H0) (hA : DVs.Ok F [.nest [.pl (.str v285), .pl (.i64 v286), .pl (.i64 v287), .sl (.f32 v288) v289] false 0] [.nest 0 0 4 ((v285).length), .int .i64 v290]) {y : Int × (List ByteArray) × (List Int) × (List Int) × (List (List Nat))} (hy : laws_markSheetS_nst_g v285 v286 v287 v288 v289 v290 = some y) : ∃ F' H', Fwd 1 F F' [.nest [.pl (.str v285), .pl (.i64 v286), .pl (.i64 v287), .sl (.f32 v288) v289] false 0] (laws_markSheetS_nst_enc v285 v286 v287 v288 v289 v290 y).2 ∧ FnOk Try.prog 27 (DVs.av F [.nest 0 0 4 ((v285).length), .int .i64 v290]) F.H0 ((laws_markSheetS_nst_enc v285 v286 v287 v288 v289 v290 y).1.av F') H' ∧ St F' (laws_markSheetS_nst_enc v285 v286 v287 v288 v289 v290 y).2 H' ∧ (laws_markSheetS_nst_enc v285 v286 v287 v288 v289 v290 y).1.Ok F' (laws_markSheetS_nst_enc v285 v286 v287 v288 v289 v290 y).2 :=
  fn_fin tok laws_markSheetS_nst_hO mixed Try.func27 Try.call27 (by kernel_rfl) (LoopsOk_eq (l := [(0, bodyOf Try.f27 0)]) (by kernel_rfl) ⟨laws_markSheetS_nst_l0_ok v285 v286 v287 v288 v289 v290, trivial⟩) (laws_markSheetS_nst_den v285 v286 v287 v288 v289 v290) hy h0 hA
noncomputable def laws_markSheetS_nst_F : DFn := fun args L =>
  match args with
  | [a1, .int .i64 v290] =>
    optT (nestN L false 4 a1) fun qn0 =>
    (match qn0.2 with
    | [.pl (.str v285), .pl (.i64 v286), .pl (.i64 v287), .sl (.f32 v288) v289] =>
    (match sepB [qn0.1] [] with
    | true =>
    .call (laws_markSheetS_nst_g v285 v286 v287 v288 v289 v290) fun y => .grd (decide ((y.2.1).length = (v285).length)) (.leaf (.int .i64 y.1, setB L [(qn0.1, .nest [.pl (.str y.2.1), .pl (.i64 y.2.2.1), .pl (.i64 y.2.2.2.1), .sl (.f32 y.2.2.2.2) v289] false (verAt L qn0.1))] ++ []))
    | false => .fail)
    | _ => .fail)
  | _ => .fail
theorem laws_markSheetS_nst_Fok : COk Try.prog 27 laws_markSheetS_nst_F false := by
  intro F L H args r L' hs ha hr
  unfold laws_markSheetS_nst_F at hr
  split at hr
  · rename_i a1 v290
    obtain ⟨⟨jn0, cn0⟩, hn0, hr⟩ := optT_run hr
    simp only at hr
    split at hr
    · rename_i v285 v286 v287 v288 v289
      obtain ⟨hne0, hnu0, hnl0, hnv0, hnm0, hno0⟩ := nestN_spec hs (DVs.okAt ha 0 rfl) hn0
      split at hr
      · rename_i hsep
        obtain ⟨hnd, hsepv⟩ := sepB_spec hsep
        simp only [Tree.run] at hr
        obtain ⟨y, hy, hr⟩ := Option.bind_eq_some_iff.1 hr
        try simp only [Tree.run] at hr
        obtain ⟨hl0, hr⟩ := ite_run hr
        simp only [Option.some.injEq, Prod.mk.injEq] at hr
        obtain ⟨rfl, rfl⟩ := hr
        exact mutG_ok hs [a1] ⟨(DVs.okAt ha 0 rfl), trivial⟩ [a1, .int .i64 v290] [.nest 0 0 4 ((v285).length), .int .i64 v290] [jn0] [verAt L jn0] [.nest [.pl (.str v285), .pl (.i64 v286), .pl (.i64 v287), .sl (.f32 v288) v289] false 0] [.nest [.pl (.str y.2.1), .pl (.i64 y.2.2.1), .pl (.i64 y.2.2.2.1), .sl (.f32 y.2.2.2.2) v289] false 0] [.nest [.pl (.str y.2.1), .pl (.i64 y.2.2.1), .pl (.i64 y.2.2.2.1), .sl (.f32 y.2.2.2.2) v289] false (verAt L jn0)] [] hnd rfl rfl (fun j hj => by
            simp at hj
            subst hj; exact ex_nest hne0) (fun j hj => by
            simp at hj
            subst hj; exact reach_refs (by simp [DVs.refs, DV.refs, hnu0])) (fun F' h0 hρ ab hpl hS => by
            have ab0 := ab 0 _ rfl;
            have hnx0 : a1.av F = (.nest 0 0 4 ((v285).length) : DV).av F' := nestN_av (hpl 0 _ rfl) hnv0
            refine ⟨fun i j b' h1 h2 => ?_, by simp [DBlk.blk, DVs.av, DV.av, BR.av, hρ, Row.len, hnx0, ab0, ab0], fun hst => laws_markSheetS_nst_fn v285 v286 v287 v288 v289 v290 F' hst ⟨(nest_ok0 (i := 0) rfl rfl hnm0), trivial, trivial⟩ hy⟩
            rcases i with _ | i
            · simp at h1 h2; subst h1; subst h2; obtain ⟨ver_, hv_⟩ := hne0; exact ⟨_, hv_, .nest _ _ _ _, nest_blk (hpl 0 _ rfl) _ _ _ _, hno0 _ _⟩
            · simp at h1) rfl rfl (fun i j b b' h1 h2 h3 => by
            rcases i with _ | i
            · simp at h1; subst h1; cases h3; exact growN hne0 (by first | exact of_decide_eq_true hl0 | rfl) rfl h2
            · simp at h1)
      · cases hr
    · cases hr
  · cases hr
/-! laws.heldFloat32S -/
noncomputable def laws_heldFloat32S_l0_T (v361 : List Nat) (s : Int × Int) : Tree ((Int × Int) ⊕ ((Unit) ⊕ (Int))) :=
  (.br (decide (s.2 < ((v361.length : Nat) : Int))) (
   (.grd (inb s.2 v361.length) <|
   (.br (!feq .f32 (nth v361 (Int.toNat s.2)) (fofint .f32 s.1)) (
    .leaf (.inr (.inl ()))
   ) (
    .leaf (.inl (IntKind.i64.wrap (s.1 + (1 : Int)), IntKind.i64.wrap (s.2 + (1 : Int))))
   )))
  ) (
   .leaf (.inr (.inr s.1))
  ))

noncomputable def laws_heldFloat32S_l0_g (v361 : List Nat) (s0 : Int × Int) : Option ((Unit) ⊕ (Int)) := whileM (fun s => (laws_heldFloat32S_l0_T v361 s).run) s0
def laws_heldFloat32S_l0_E (v361 : List Nat) (v362 : Int) (s : Int × Int) : Sd := ([.bslc (BR.root 0) (.f32 v361),.int .i64 s.1,tp,tp,tp,.int .i64 s.2,tp,tp,tp,tp,tp,tp,tp,tp,tp,tp,tp,tp,tp,tp,tp,tp], [])
def laws_heldFloat32S_l0_X (v361 : List Nat) (v362 : Int) (x : (Unit) ⊕ (Int)) : Out := (match x with | .inl x => (.ret, [tp,tp,tp,tp,.int .i64 (-1 : Int),tp,tp,tp,tp,tp,tp,tp,tp,tp,tp,tp,tp,tp,tp,tp,tp,tp], []) | .inr x => (.normal, [tp,.int .i64 x,tp,tp,tp,tp,tp,tp,tp,tp,tp,tp,tp,tp,tp,tp,tp,tp,tp,tp,tp,tp], []))
def laws_heldFloat32S_l0_kill : List Nat := KL true [0,2,3,1,16]
def laws_heldFloat32S_l0_nx : Exit → List Nat
  | .exit 0 => KL true [1,1,20]
  | .ret => KL true [4,1,17]
  | _ => []
noncomputable def laws_heldFloat32S_LO (v361 : List Nat) (v362 : Int) : LOr := fun id e L =>
  match id with
  | 0 => .need (normA 0 laws_heldFloat32S_l0_kill e L = some (laws_heldFloat32S_l0_E v361 v362 ((gI (vAt e 1)), (gI (vAt e 5))))) (.call (laws_heldFloat32S_l0_g v361 ((gI (vAt e 1)), (gI (vAt e 5)))) fun x => .sum x (fun b0 => .leaf (laws_heldFloat32S_l0_X v361 v362 (.inl b0))) (fun c0 => .leaf (laws_heldFloat32S_l0_X v361 v362 (.inr c0))))
  | _ => .fail
noncomputable def laws_heldFloat32S_tab : List (FuncId × DFn × Bool) := []
theorem laws_heldFloat32S_hO : OrcOk Try.prog (tabD laws_heldFloat32S_tab) (tabM laws_heldFloat32S_tab) := tabD_nil _
theorem laws_heldFloat32S_l0_be (v361 : List Nat) (v362 : Int) (s : Int × Int) : bodyT TT (tabD laws_heldFloat32S_tab) (tabM laws_heldFloat32S_tab) (laws_heldFloat32S_LO v361 v362) 0 laws_heldFloat32S_l0_kill laws_heldFloat32S_l0_nx (bodyOf Try.f52 0) 0 (laws_heldFloat32S_l0_E v361 v362 s) = (laws_heldFloat32S_l0_T v361 s).bind fun y => .leaf (outS (laws_heldFloat32S_l0_E v361 v362) (laws_heldFloat32S_l0_X v361 v362) y) := by kernel_rfl
theorem laws_heldFloat32S_l0_ok (v361 : List Nat) (v362 : Int) : LSound Try.prog 0 (laws_heldFloat32S_LO v361 v362) 0 (bodyOf Try.f52 0) := by
  intro e L out h
  exact lo_ok (E := laws_heldFloat32S_l0_E v361 v362) (gT := laws_heldFloat32S_l0_T v361) (X := laws_heldFloat32S_l0_X v361 v362) (s0 := ((gI (vAt e 1)), (gI (vAt e 5)))) tok laws_heldFloat32S_hO mixed (LoopsOk_eq (l := []) (by kernel_rfl) trivial) (laws_heldFloat32S_l0_be v361 v362) rfl (by intro x; (cases x with | inl b => rfl | inr x => exact rfl)) h
noncomputable def laws_heldFloat32S_T (v361 : List Nat) (v362 : Int) : Tree (Int) :=
  (.need (some (laws_heldFloat32S_l0_E v361 v362 (v362, (0 : Int))) = some (laws_heldFloat32S_l0_E v361 v362 (v362, (0 : Int)))) <|
  (.call (laws_heldFloat32S_l0_g v361 (v362, (0 : Int))) fun v369 =>
  (.sum v369 (fun v370 =>
   .leaf (-1 : Int)
  ) (fun v371 =>
   .leaf v371
  ))))

noncomputable def laws_heldFloat32S_g (v361 : List Nat) (v362 : Int) : Option (Int) := (laws_heldFloat32S_T v361 v362).run
def laws_heldFloat32S_enc (v361 : List Nat) (v362 : Int) (y : Int) : Rs := (.int .i64 y, [])
theorem laws_heldFloat32S_den (v361 : List Nat) (v362 : Int) : (den TT (tabD laws_heldFloat32S_tab) (tabM laws_heldFloat32S_tab) (laws_heldFloat32S_LO v361 v362) (codeOf Try.f52) ([.bslc (BR.root 0) (.f32 v361), .int .i64 v362] ++ List.replicate (Try.f52.ntmps - ([.bslc (BR.root 0) (.f32 v361), .int .i64 v362] : List DV).length) .undef) []).bind (retD TT Try.f52.results.toList 0) = (laws_heldFloat32S_T v361 v362).bind fun y => .leaf (laws_heldFloat32S_enc v361 v362 y) := by kernel_rfl
theorem laws_heldFloat32S_fn (v361 : List Nat) (v362 : Int) (F : Fr) (h0 : St F [] F.H0) (hA : DVs.Ok F [] [.bslc (BR.root 0) (.f32 v361), .int .i64 v362]) {y : Int} (hy : laws_heldFloat32S_g v361 v362 = some y) : ∃ F' H', Fwd 0 F F' [] (laws_heldFloat32S_enc v361 v362 y).2 ∧ FnOk Try.prog 52 (DVs.av F [.bslc (BR.root 0) (.f32 v361), .int .i64 v362]) F.H0 ((laws_heldFloat32S_enc v361 v362 y).1.av F') H' ∧ St F' (laws_heldFloat32S_enc v361 v362 y).2 H' ∧ (laws_heldFloat32S_enc v361 v362 y).1.Ok F' (laws_heldFloat32S_enc v361 v362 y).2 :=
  fn_fin tok laws_heldFloat32S_hO mixed Try.func52 Try.call52 (by kernel_rfl) (LoopsOk_eq (l := [(0, bodyOf Try.f52 0)]) (by kernel_rfl) ⟨laws_heldFloat32S_l0_ok v361 v362, trivial⟩) (laws_heldFloat32S_den v361 v362) hy h0 hA
noncomputable def laws_heldFloat32S_F : DFn := fun args L =>
  match args with
  | [a1, .int .i64 v362] =>
    optT (rowF32 L a1) fun v361 =>
    .call (laws_heldFloat32S_g v361 v362) fun y => .leaf (.int .i64 y, L)
  | _ => .fail
theorem laws_heldFloat32S_Fok : COk Try.prog 52 laws_heldFloat32S_F true := by
  intro F L H args r L' hs ha hr
  unfold laws_heldFloat32S_F at hr
  split at hr
  · rename_i a1 v362
    obtain ⟨v361, hv361, hr⟩ := optT_run hr
    simp only [Tree.run] at hr
    obtain ⟨y, hy, hr⟩ := Option.bind_eq_some_iff.1 hr
    simp only [Tree.run, Option.some.injEq, Prod.mk.injEq] at hr
    obtain ⟨rfl, rfl⟩ := hr
    exact call_ok0 hs (fun k => (([a1.av F] : List AV)[k]?).getD .top) [a1, .int .i64 v362] [.bslc (BR.root 0) (.f32 v361), .int .i64 v362] (fun F' h0 hi hρ => ⟨by simp [DVs.av, DV.av, BR.av, hρ], laws_heldFloat32S_fn v361 v362 F' (st_nil hi) ⟨bslc_ok hi (by rw [h0, hρ]; exact rowF32_ok hs (DVs.okAt ha 0 rfl) hv361), trivial, trivial⟩ hy⟩) rfl
  · cases hr
/-! laws.heldSheetS -/
noncomputable def laws_heldSheetS_nst_l0_T (v352 : List ByteArray) (v353 : List Int) (v354 : List Int) (v355 : List (List Nat)) (v356 : List Nat) (s : Int × Int) : Tree ((Int × Int) ⊕ ((Unit) ⊕ (Int))) :=
  (.br (decide (s.2 < (((v352).length : Nat) : Int))) (
   (.grd (inb s.2 ((v352).length)) <|
   (.call (laws_markText_g s.1) fun v379 =>
   (.br (!((nth v352 (Int.toNat s.2)).toList == v379.toList)) (
    .leaf (.inr (.inl ()))
   ) (
    (.grd (inb s.2 ((v352).length)) <|
    (.br (!decide (nth v353 (Int.toNat s.2) = IntKind.i64.wrap (s.1 + (1 : Int)))) (
     .leaf (.inr (.inl ()))
    ) (
     (.grd (inb s.2 ((v352).length)) <|
     (.br (!decide (nth v354 (Int.toNat s.2) = IntKind.i64.wrap ((IntKind.i64.wrap (s.1 + (1 : Int))) + (1 : Int)))) (
      .leaf (.inr (.inl ()))
     ) (
      (.grd (inb s.2 ((v352).length)) <|
      (.call (laws_heldFloat32S_g (nget v355 (nth v356 (Int.toNat s.2))) (IntKind.i64.wrap ((IntKind.i64.wrap ((IntKind.i64.wrap (s.1 + (1 : Int))) + (1 : Int))) + (1 : Int)))) fun v380 =>
      (.br (decide (v380 < (0 : Int))) (
       .leaf (.inr (.inl ()))
      ) (
       .leaf (.inl (v380, IntKind.i64.wrap (s.2 + (1 : Int))))
      ))))
     )))
    )))
   ))))
  ) (
   .leaf (.inr (.inr s.1))
  ))

noncomputable def laws_heldSheetS_nst_l0_g (v352 : List ByteArray) (v353 : List Int) (v354 : List Int) (v355 : List (List Nat)) (v356 : List Nat) (s0 : Int × Int) : Option ((Unit) ⊕ (Int)) := whileM (fun s => (laws_heldSheetS_nst_l0_T v352 v353 v354 v355 v356 s).run) s0
def laws_heldSheetS_nst_l0_E (v352 : List ByteArray) (v353 : List Int) (v354 : List Int) (v355 : List (List Nat)) (v356 : List Nat) (v357 : Int) (s : Int × Int) : Sd := ([.nest 0 0 4 ((v352).length),.int .i64 s.1,tp,tp,tp,.int .i64 s.2,tp,tp,tp,tp,tp,tp,tp,tp,tp,tp,tp,tp,tp,tp,tp,tp,tp,tp,tp,tp,tp,tp,tp,tp,tp,tp,tp,tp,tp,tp,tp,tp,tp,tp,tp,tp,tp,tp,tp,tp,tp,tp,tp,tp,tp,tp,tp], [.nest [.pl (.str v352), .pl (.i64 v353), .pl (.i64 v354), .sl (.f32 v355) v356] false 0])
def laws_heldSheetS_nst_l0_X (v352 : List ByteArray) (v353 : List Int) (v354 : List Int) (v355 : List (List Nat)) (v356 : List Nat) (v357 : Int) (x : (Unit) ⊕ (Int)) : Out := (match x with | .inl x => (.ret, [tp,tp,tp,tp,.int .i64 (-1 : Int),tp,tp,tp,tp,tp,tp,tp,tp,tp,tp,tp,tp,tp,tp,tp,tp,tp,tp,tp,tp,tp,tp,tp,tp,tp,tp,tp,tp,tp,tp,tp,tp,tp,tp,tp,tp,tp,tp,tp,tp,tp,tp,tp,tp,tp,tp,tp,tp], [.nest [.pl (.str v352), .pl (.i64 v353), .pl (.i64 v354), .sl (.f32 v355) v356] false 0]) | .inr x => (.normal, [tp,.int .i64 x,tp,tp,tp,tp,tp,tp,tp,tp,tp,tp,tp,tp,tp,tp,tp,tp,tp,tp,tp,tp,tp,tp,tp,tp,tp,tp,tp,tp,tp,tp,tp,tp,tp,tp,tp,tp,tp,tp,tp,tp,tp,tp,tp,tp,tp,tp,tp,tp,tp,tp,tp], [.nest [.pl (.str v352), .pl (.i64 v353), .pl (.i64 v354), .sl (.f32 v355) v356] false 0]))
def laws_heldSheetS_nst_l0_kill : List Nat := KL true [0,2,3,1,47]
def laws_heldSheetS_nst_l0_nx : Exit → List Nat
  | .exit 0 => KL true [1,1,51]
  | .ret => KL true [4,1,48]
  | _ => []
noncomputable def laws_heldSheetS_nst_LO (v352 : List ByteArray) (v353 : List Int) (v354 : List Int) (v355 : List (List Nat)) (v356 : List Nat) (v357 : Int) : LOr := fun id e L =>
  match id with
  | 0 => .need (normA 1 laws_heldSheetS_nst_l0_kill e L = some (laws_heldSheetS_nst_l0_E v352 v353 v354 v355 v356 v357 ((gI (vAt e 1)), (gI (vAt e 5))))) (.call (laws_heldSheetS_nst_l0_g v352 v353 v354 v355 v356 ((gI (vAt e 1)), (gI (vAt e 5)))) fun x => .sum x (fun b0 => .leaf (laws_heldSheetS_nst_l0_X v352 v353 v354 v355 v356 v357 (.inl b0))) (fun c0 => .leaf (laws_heldSheetS_nst_l0_X v352 v353 v354 v355 v356 v357 (.inr c0))))
  | _ => .fail
noncomputable def laws_heldSheetS_nst_tab : List (FuncId × DFn × Bool) := [(50, laws_markText_F, true), (52, laws_heldFloat32S_F, true)]
theorem laws_heldSheetS_nst_hO : OrcOk Try.prog (tabD laws_heldSheetS_nst_tab) (tabM laws_heldSheetS_nst_tab) := tabD_cons laws_markText_Fok (tabD_cons laws_heldFloat32S_Fok (tabD_nil _))
theorem laws_heldSheetS_nst_l0_be (v352 : List ByteArray) (v353 : List Int) (v354 : List Int) (v355 : List (List Nat)) (v356 : List Nat) (v357 : Int) (s : Int × Int) : bodyT TT (tabD laws_heldSheetS_nst_tab) (tabM laws_heldSheetS_nst_tab) (laws_heldSheetS_nst_LO v352 v353 v354 v355 v356 v357) 1 laws_heldSheetS_nst_l0_kill laws_heldSheetS_nst_l0_nx (bodyOf Try.f28 0) 0 (laws_heldSheetS_nst_l0_E v352 v353 v354 v355 v356 v357 s) = (laws_heldSheetS_nst_l0_T v352 v353 v354 v355 v356 s).bind fun y => .leaf (outS (laws_heldSheetS_nst_l0_E v352 v353 v354 v355 v356 v357) (laws_heldSheetS_nst_l0_X v352 v353 v354 v355 v356 v357) y) := by kernel_rfl
theorem laws_heldSheetS_nst_l0_ok (v352 : List ByteArray) (v353 : List Int) (v354 : List Int) (v355 : List (List Nat)) (v356 : List Nat) (v357 : Int) : LSound Try.prog 1 (laws_heldSheetS_nst_LO v352 v353 v354 v355 v356 v357) 0 (bodyOf Try.f28 0) := by
  intro e L out h
  exact lo_ok (E := laws_heldSheetS_nst_l0_E v352 v353 v354 v355 v356 v357) (gT := laws_heldSheetS_nst_l0_T v352 v353 v354 v355 v356) (X := laws_heldSheetS_nst_l0_X v352 v353 v354 v355 v356 v357) (s0 := ((gI (vAt e 1)), (gI (vAt e 5)))) tok laws_heldSheetS_nst_hO mixed (LoopsOk_eq (l := []) (by kernel_rfl) trivial) (laws_heldSheetS_nst_l0_be v352 v353 v354 v355 v356 v357) rfl (by intro x; (cases x with | inl b => rfl | inr x => exact rfl)) h
noncomputable def laws_heldSheetS_nst_T (v352 : List ByteArray) (v353 : List Int) (v354 : List Int) (v355 : List (List Nat)) (v356 : List Nat) (v357 : Int) : Tree (Int) :=
  (.need (some (laws_heldSheetS_nst_l0_E v352 v353 v354 v355 v356 v357 (v357, (0 : Int))) = some (laws_heldSheetS_nst_l0_E v352 v353 v354 v355 v356 v357 (v357, (0 : Int)))) <|
  (.call (laws_heldSheetS_nst_l0_g v352 v353 v354 v355 v356 (v357, (0 : Int))) fun v381 =>
  (.sum v381 (fun v382 =>
   .leaf (-1 : Int)
  ) (fun v383 =>
   .leaf v383
  ))))

noncomputable def laws_heldSheetS_nst_g (v352 : List ByteArray) (v353 : List Int) (v354 : List Int) (v355 : List (List Nat)) (v356 : List Nat) (v357 : Int) : Option (Int) := (laws_heldSheetS_nst_T v352 v353 v354 v355 v356 v357).run
def laws_heldSheetS_nst_enc (v352 : List ByteArray) (v353 : List Int) (v354 : List Int) (v355 : List (List Nat)) (v356 : List Nat) (v357 : Int) (y : Int) : Rs := (.int .i64 y, [.nest [.pl (.str v352), .pl (.i64 v353), .pl (.i64 v354), .sl (.f32 v355) v356] false 0])
theorem laws_heldSheetS_nst_den (v352 : List ByteArray) (v353 : List Int) (v354 : List Int) (v355 : List (List Nat)) (v356 : List Nat) (v357 : Int) : (den TT (tabD laws_heldSheetS_nst_tab) (tabM laws_heldSheetS_nst_tab) (laws_heldSheetS_nst_LO v352 v353 v354 v355 v356 v357) (codeOf Try.f28) ([.nest 0 0 4 ((v352).length), .int .i64 v357] ++ List.replicate (Try.f28.ntmps - ([.nest 0 0 4 ((v352).length), .int .i64 v357] : List DV).length) .undef) [.nest [.pl (.str v352), .pl (.i64 v353), .pl (.i64 v354), .sl (.f32 v355) v356] false 0]).bind (retD TT Try.f28.results.toList 1) = (laws_heldSheetS_nst_T v352 v353 v354 v355 v356 v357).bind fun y => .leaf (laws_heldSheetS_nst_enc v352 v353 v354 v355 v356 v357 y) := by kernel_rfl
theorem laws_heldSheetS_nst_fn (v352 : List ByteArray) (v353 : List Int) (v354 : List Int) (v355 : List (List Nat)) (v356 : List Nat) (v357 : Int) (F : Fr) (h0 : St F [.nest [.pl (.str v352), .pl (.i64 v353), .pl (.i64 v354), .sl (.f32 v355) v356] false 0] F.H0) (hA : DVs.Ok F [.nest [.pl (.str v352), .pl (.i64 v353), .pl (.i64 v354), .sl (.f32 v355) v356] false 0] [.nest 0 0 4 ((v352).length), .int .i64 v357]) {y : Int} (hy : laws_heldSheetS_nst_g v352 v353 v354 v355 v356 v357 = some y) : ∃ F' H', Fwd 1 F F' [.nest [.pl (.str v352), .pl (.i64 v353), .pl (.i64 v354), .sl (.f32 v355) v356] false 0] (laws_heldSheetS_nst_enc v352 v353 v354 v355 v356 v357 y).2 ∧ FnOk Try.prog 28 (DVs.av F [.nest 0 0 4 ((v352).length), .int .i64 v357]) F.H0 ((laws_heldSheetS_nst_enc v352 v353 v354 v355 v356 v357 y).1.av F') H' ∧ St F' (laws_heldSheetS_nst_enc v352 v353 v354 v355 v356 v357 y).2 H' ∧ (laws_heldSheetS_nst_enc v352 v353 v354 v355 v356 v357 y).1.Ok F' (laws_heldSheetS_nst_enc v352 v353 v354 v355 v356 v357 y).2 :=
  fn_fin tok laws_heldSheetS_nst_hO mixed Try.func28 Try.call28 (by kernel_rfl) (LoopsOk_eq (l := [(0, bodyOf Try.f28 0)]) (by kernel_rfl) ⟨laws_heldSheetS_nst_l0_ok v352 v353 v354 v355 v356 v357, trivial⟩) (laws_heldSheetS_nst_den v352 v353 v354 v355 v356 v357) hy h0 hA
noncomputable def laws_heldSheetS_nst_F : DFn := fun args L =>
  match args with
  | [a1, .int .i64 v357] =>
    optT (nestN L false 4 a1) fun qn0 =>
    (match qn0.2 with
    | [.pl (.str v352), .pl (.i64 v353), .pl (.i64 v354), .sl (.f32 v355) v356] =>
    (match sepB [qn0.1] [] with
    | true =>
    .call (laws_heldSheetS_nst_g v352 v353 v354 v355 v356 v357) fun y => .grd (decide ((v352).length = (v352).length)) (.leaf (.int .i64 y, setB L [(qn0.1, .nest [.pl (.str v352), .pl (.i64 v353), .pl (.i64 v354), .sl (.f32 v355) v356] false (verAt L qn0.1))] ++ []))
    | false => .fail)
    | _ => .fail)
  | _ => .fail
theorem laws_heldSheetS_nst_Fok : COk Try.prog 28 laws_heldSheetS_nst_F false := by
  intro F L H args r L' hs ha hr
  unfold laws_heldSheetS_nst_F at hr
  split at hr
  · rename_i a1 v357
    obtain ⟨⟨jn0, cn0⟩, hn0, hr⟩ := optT_run hr
    simp only at hr
    split at hr
    · rename_i v352 v353 v354 v355 v356
      obtain ⟨hne0, hnu0, hnl0, hnv0, hnm0, hno0⟩ := nestN_spec hs (DVs.okAt ha 0 rfl) hn0
      split at hr
      · rename_i hsep
        obtain ⟨hnd, hsepv⟩ := sepB_spec hsep
        simp only [Tree.run] at hr
        obtain ⟨y, hy, hr⟩ := Option.bind_eq_some_iff.1 hr
        try simp only [Tree.run] at hr
        obtain ⟨hl0, hr⟩ := ite_run hr
        simp only [Option.some.injEq, Prod.mk.injEq] at hr
        obtain ⟨rfl, rfl⟩ := hr
        exact mutG_ok hs [a1] ⟨(DVs.okAt ha 0 rfl), trivial⟩ [a1, .int .i64 v357] [.nest 0 0 4 ((v352).length), .int .i64 v357] [jn0] [verAt L jn0] [.nest [.pl (.str v352), .pl (.i64 v353), .pl (.i64 v354), .sl (.f32 v355) v356] false 0] [.nest [.pl (.str v352), .pl (.i64 v353), .pl (.i64 v354), .sl (.f32 v355) v356] false 0] [.nest [.pl (.str v352), .pl (.i64 v353), .pl (.i64 v354), .sl (.f32 v355) v356] false (verAt L jn0)] [] hnd rfl rfl (fun j hj => by
            simp at hj
            subst hj; exact ex_nest hne0) (fun j hj => by
            simp at hj
            subst hj; exact reach_refs (by simp [DVs.refs, DV.refs, hnu0])) (fun F' h0 hρ ab hpl hS => by
            have ab0 := ab 0 _ rfl;
            have hnx0 : a1.av F = (.nest 0 0 4 ((v352).length) : DV).av F' := nestN_av (hpl 0 _ rfl) hnv0
            refine ⟨fun i j b' h1 h2 => ?_, by simp [DBlk.blk, DVs.av, DV.av, BR.av, hρ, Row.len, hnx0, ab0, ab0], fun hst => laws_heldSheetS_nst_fn v352 v353 v354 v355 v356 v357 F' hst ⟨(nest_ok0 (i := 0) rfl rfl hnm0), trivial, trivial⟩ hy⟩
            rcases i with _ | i
            · simp at h1 h2; subst h1; subst h2; obtain ⟨ver_, hv_⟩ := hne0; exact ⟨_, hv_, .nest _ _ _ _, nest_blk (hpl 0 _ rfl) _ _ _ _, hno0 _ _⟩
            · simp at h1) rfl rfl (fun i j b b' h1 h2 h3 => by
            rcases i with _ | i
            · simp at h1; subst h1; cases h3; exact growN hne0 (by first | exact of_decide_eq_true hl0 | rfl) rfl h2
            · simp at h1)
      · cases hr
    · cases hr
  · cases hr
/-! laws.FnExactRecoverSheets -/
noncomputable def laws_FnExactRecoverSheets_LO (v1 : ByteArray) : LOr := fun id e L =>
  match id with
  | _ => .fail
noncomputable def laws_FnExactRecoverSheets_tab : List (FuncId × DFn × Bool) := [(25, spec_RecoverSheets_F, true), (26, impl_RecoverSheets_F, true), (22, laws_eqSheetS_nst_F, false), (27, laws_markSheetS_nst_F, false), (28, laws_heldSheetS_nst_F, false)]
theorem laws_FnExactRecoverSheets_hO : OrcOk Try.prog (tabD laws_FnExactRecoverSheets_tab) (tabM laws_FnExactRecoverSheets_tab) := tabD_cons spec_RecoverSheets_Fok (tabD_cons impl_RecoverSheets_Fok (tabD_cons laws_eqSheetS_nst_Fok (tabD_cons laws_markSheetS_nst_Fok (tabD_cons laws_heldSheetS_nst_Fok (tabD_nil _)))))
noncomputable def laws_FnExactRecoverSheets_T (v1 : ByteArray) : Tree (Bool) :=
  (.br (decide ((1048576 : Int) < ((v1.size : Nat) : Int))) (
   .leaf true
  ) (
   (.call (spec_RecoverSheets_g v1) fun v100 =>
   (.call (impl_RecoverSheets_g v1) fun v238 =>
   (.call (laws_eqSheetS_nst_g v238.2.1 v238.2.2.1 v238.2.2.2.1 v238.2.2.2.2.1 v238.2.2.2.2.2 v100.2.1 v100.2.2.1 v100.2.2.2.1 v100.2.2.2.2.1 v100.2.2.2.2.2) fun v284 =>
   (.grd (decide ((v238.2.1).length = (v238.2.1).length)) <|
   (.grd (decide ((v100.2.1).length = (v100.2.1).length)) <|
   (.br (!v284) (
    .leaf false
   ) (
    (.br (!decide (v238.1 = v100.1)) (
     .leaf false
    ) (
     (.br (!(true == true)) (
      .leaf false
     ) (
      (.call (laws_markSheetS_nst_g v238.2.1 v238.2.2.1 v238.2.2.2.1 v238.2.2.2.2.1 v238.2.2.2.2.2 (1 : Int)) fun v351 =>
      (.grd (decide ((v351.2.1).length = (v238.2.1).length)) <|
      (.call (laws_heldSheetS_nst_g v351.2.1 v351.2.2.1 v351.2.2.2.1 v351.2.2.2.2 v238.2.2.2.2.2 (1 : Int)) fun v384 =>
      (.grd (decide ((v351.2.1).length = (v351.2.1).length)) <|
      (.br (decide (v384 < (0 : Int))) (
       .leaf false
      ) (
       (.br (!decide (v384 = v351.1)) (
        .leaf false
       ) (
        (.call (impl_RecoverSheets_g v1) fun v385 =>
        (.call (laws_eqSheetS_nst_g v385.2.1 v385.2.2.1 v385.2.2.2.1 v385.2.2.2.2.1 v385.2.2.2.2.2 v100.2.1 v100.2.2.1 v100.2.2.2.1 v100.2.2.2.2.1 v100.2.2.2.2.2) fun v386 =>
        (.grd (decide ((v385.2.1).length = (v385.2.1).length)) <|
        (.grd (decide ((v100.2.1).length = (v100.2.1).length)) <|
        (.br (!v386) (
         .leaf false
        ) (
         (.br (!decide (v385.1 = v100.1)) (
          .leaf false
         ) (
          (.br (!(true == true)) (
           .leaf false
          ) (
           (.call (laws_heldSheetS_nst_g v351.2.1 v351.2.2.1 v351.2.2.2.1 v351.2.2.2.2 v238.2.2.2.2.2 (1 : Int)) fun v387 =>
           (.grd (decide ((v351.2.1).length = (v351.2.1).length)) <|
           (.br (decide (v387 < (0 : Int))) (
            .leaf false
           ) (
            (.br (!decide (v387 = v351.1)) (
             .leaf false
            ) (
             .leaf true
            ))
           ))))
          ))
         ))
        ))))))
       ))
      ))))))
     ))
    ))
   )))))))
  ))

noncomputable def laws_FnExactRecoverSheets_g (v1 : ByteArray) : Option (Bool) := (laws_FnExactRecoverSheets_T v1).run
def laws_FnExactRecoverSheets_enc (v1 : ByteArray) (y : Bool) : Rs := (.bool y, [])
theorem laws_FnExactRecoverSheets_den (v1 : ByteArray) : (den TT (tabD laws_FnExactRecoverSheets_tab) (tabM laws_FnExactRecoverSheets_tab) (laws_FnExactRecoverSheets_LO v1) (codeOf Try.f7) ([.str v1] ++ List.replicate (Try.f7.ntmps - ([.str v1] : List DV).length) .undef) []).bind (retD TT Try.f7.results.toList 0) = (laws_FnExactRecoverSheets_T v1).bind fun y => .leaf (laws_FnExactRecoverSheets_enc v1 y) := by kernel_rfl
theorem laws_FnExactRecoverSheets_fn (v1 : ByteArray) (F : Fr) (h0 : St F [] F.H0) (hA : DVs.Ok F [] [.str v1]) {y : Bool} (hy : laws_FnExactRecoverSheets_g v1 = some y) : ∃ F' H', Fwd 0 F F' [] (laws_FnExactRecoverSheets_enc v1 y).2 ∧ FnOk Try.prog 7 (DVs.av F [.str v1]) F.H0 ((laws_FnExactRecoverSheets_enc v1 y).1.av F') H' ∧ St F' (laws_FnExactRecoverSheets_enc v1 y).2 H' ∧ (laws_FnExactRecoverSheets_enc v1 y).1.Ok F' (laws_FnExactRecoverSheets_enc v1 y).2 :=
  fn_fin tok laws_FnExactRecoverSheets_hO mixed Try.func7 Try.call7 (by kernel_rfl) (LoopsOk_eq (l := []) (by kernel_rfl) trivial) (laws_FnExactRecoverSheets_den v1) hy h0 hA
noncomputable def laws_FnExactRecoverSheets_F : DFn := fun args L =>
  match args with
  | [.str v1] =>
    .call (laws_FnExactRecoverSheets_g v1) fun y => .leaf (.bool y, L)
  | _ => .fail
theorem laws_FnExactRecoverSheets_Fok : COk Try.prog 7 laws_FnExactRecoverSheets_F true := by
  intro F L H args r L' hs ha hr
  unfold laws_FnExactRecoverSheets_F at hr
  split at hr
  · rename_i v1
    simp only [Tree.run] at hr
    obtain ⟨y, hy, hr⟩ := Option.bind_eq_some_iff.1 hr
    simp only [Tree.run, Option.some.injEq, Prod.mk.injEq] at hr
    obtain ⟨rfl, rfl⟩ := hr
    exact call_ok0 hs (fun k => (([] : List AV)[k]?).getD .top) [.str v1] [.str v1] (fun F' h0 hi hρ => ⟨by simp [DVs.av, DV.av, BR.av, hρ], laws_FnExactRecoverSheets_fn v1 F' (st_nil hi) ⟨trivial, trivial⟩ hy⟩) rfl
  · cases hr
end Go.Proofs.Ythdmkdkbfhoahaa.AM
