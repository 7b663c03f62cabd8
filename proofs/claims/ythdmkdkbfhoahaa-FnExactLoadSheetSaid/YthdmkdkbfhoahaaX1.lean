/- Functions: what they come to. -/
import Derived.Test.YthdmkdkbfhoahaaBase
set_option maxRecDepth 100000
set_option maxHeartbeats 4000000
set_option linter.unusedSimpArgs false
set_option linter.unusedVariables false
namespace Go.Proofs.Ythdmkdkbfhoahaa.AM
open Go.Proofs
/-! spec.l07Long -/
noncomputable def spec_l07Long_LO (v4 : ByteArray) : LOr := fun id e L =>
  match id with
  | _ => .fail
noncomputable def spec_l07Long_tab : List (FuncId × DFn × Bool) := []
theorem spec_l07Long_hO : OrcOk Try.prog (tabD spec_l07Long_tab) (tabM spec_l07Long_tab) := tabD_nil _
noncomputable def spec_l07Long_T (v4 : ByteArray) : Tree (Int) :=
  (.br (decide (((v4.size : Nat) : Int) < (5 : Int))) (
   .leaf (0 : Int)
  ) (
   (.grd (inb (4 : Int) v4.size) <|
   (.br (decide (((v4.size : Nat) : Int) < IntKind.i64.wrap ((IntKind.i64.wrap ((5 : Int) + (IntKind.i64.wrap (bt v4 (4 : Int))))) + (2 : Int)))) (
    .leaf (0 : Int)
   ) (
    (.grd (inb (IntKind.i64.wrap ((5 : Int) + (IntKind.i64.wrap (bt v4 (4 : Int))))) v4.size) <|
    (.grd (inb (IntKind.i64.wrap ((IntKind.i64.wrap ((5 : Int) + (IntKind.i64.wrap (bt v4 (4 : Int))))) + (1 : Int))) v4.size) <|
    (.br (decide (((v4.size : Nat) : Int) < IntKind.i64.wrap ((IntKind.i64.wrap ((IntKind.i64.wrap ((5 : Int) + (IntKind.i64.wrap (bt v4 (4 : Int))))) + (4 : Int))) + (IntKind.i64.wrap ((IntKind.i64.wrap ((4 : Int) * (IntKind.i64.wrap (bt v4 (IntKind.i64.wrap ((5 : Int) + (IntKind.i64.wrap (bt v4 (4 : Int))))))))) * (IntKind.i64.wrap (bt v4 (IntKind.i64.wrap ((IntKind.i64.wrap ((5 : Int) + (IntKind.i64.wrap (bt v4 (4 : Int))))) + (1 : Int)))))))))) (
     .leaf (0 : Int)
    ) (
     .leaf (IntKind.i64.wrap ((IntKind.i64.wrap ((IntKind.i64.wrap ((5 : Int) + (IntKind.i64.wrap (bt v4 (4 : Int))))) + (4 : Int))) + (IntKind.i64.wrap ((IntKind.i64.wrap ((4 : Int) * (IntKind.i64.wrap (bt v4 (IntKind.i64.wrap ((5 : Int) + (IntKind.i64.wrap (bt v4 (4 : Int))))))))) * (IntKind.i64.wrap (bt v4 (IntKind.i64.wrap ((IntKind.i64.wrap ((5 : Int) + (IntKind.i64.wrap (bt v4 (4 : Int))))) + (1 : Int)))))))))
    ))))
   )))
  ))

noncomputable def spec_l07Long_g (v4 : ByteArray) : Option (Int) := (spec_l07Long_T v4).run
def spec_l07Long_enc (v4 : ByteArray) (y : Int) : Rs := (.int .i64 y, [])
theorem spec_l07Long_den (v4 : ByteArray) : (den TT (tabD spec_l07Long_tab) (tabM spec_l07Long_tab) (spec_l07Long_LO v4) (codeOf Try.f49) ([.str v4] ++ List.replicate (Try.f49.ntmps - ([.str v4] : List DV).length) .undef) []).bind (retD TT Try.f49.results.toList 0) = (spec_l07Long_T v4).bind fun y => .leaf (spec_l07Long_enc v4 y) := by kernel_rfl
theorem spec_l07Long_fn (v4 : ByteArray) (F : Fr) (hm : F.ids.length = 0) (h0 : St F [] F.H0) (hA : DVs.Ok F [] [.str v4]) {y : Int} (hy : spec_l07Long_g v4 = some y) : ∃ H', FnOk Try.prog 49 (DVs.av F [.str v4]) F.H0 ((spec_l07Long_enc v4 y).1.av F) H' ∧ St F (spec_l07Long_enc v4 y).2 H' ∧ (spec_l07Long_enc v4 y).1.Ok F (spec_l07Long_enc v4 y).2 :=
  fn_fin tok spec_l07Long_hO mixed Try.func49 Try.call49 (by kernel_rfl) (LoopsOk_eq (l := []) (by kernel_rfl) trivial) (spec_l07Long_den v4) hy hm h0 hA
noncomputable def spec_l07Long_F : DFn := fun args L =>
  match args with
  | [.str v4] =>
    .call (spec_l07Long_g v4) fun y => .leaf (.int .i64 y, L)
  | _ => .fail
theorem spec_l07Long_Fok : COk Try.prog 49 spec_l07Long_F true := by
  intro F L H args r L' hs ha hr
  unfold spec_l07Long_F at hr
  split at hr
  · rename_i v4
    simp only [Tree.run] at hr
    obtain ⟨y, hy, hr⟩ := Option.bind_eq_some_iff.1 hr
    simp only [Tree.run, Option.some.injEq, Prod.mk.injEq] at hr
    obtain ⟨rfl, rfl⟩ := hr
    exact call_ok0 hs (fun k => (([] : List AV)[k]?).getD .top) [.str v4] [.str v4] (fun F' h0 hi hρ => ⟨by simp [DVs.av, DV.av, BR.av, hρ], spec_l07Long_fn v4 F' (by rw [hi]; rfl) (st_nil hi) ⟨trivial, trivial⟩ hy⟩) rfl
  · cases hr
/-! spec.l02Blank -/
noncomputable def spec_l02Blank_LO (v6 : Int) (v7 : Int) : LOr := fun id e L =>
  match id with
  | _ => .fail
noncomputable def spec_l02Blank_tab : List (FuncId × DFn × Bool) := []
theorem spec_l02Blank_hO : OrcOk Try.prog (tabD spec_l02Blank_tab) (tabM spec_l02Blank_tab) := tabD_nil _
noncomputable def spec_l02Blank_T (v6 : Int) (v7 : Int) : Tree (Int × Int) :=
  .leaf (v6, v7)

noncomputable def spec_l02Blank_g (v6 : Int) (v7 : Int) : Option (Int × Int) := (spec_l02Blank_T v6 v7).run
def spec_l02Blank_enc (v6 : Int) (v7 : Int) (y : Int × Int) : Rs := (.agg [.int .i64 y.1, .int .i64 y.2, .own 0 0 ((([] : List Nat)).length)], [.row (.f32 ([] : List Nat)) 0])
theorem spec_l02Blank_den (v6 : Int) (v7 : Int) : (den TT (tabD spec_l02Blank_tab) (tabM spec_l02Blank_tab) (spec_l02Blank_LO v6 v7) (codeOf Try.f69) ([.int .i64 v6, .int .i64 v7] ++ List.replicate (Try.f69.ntmps - ([.int .i64 v6, .int .i64 v7] : List DV).length) .undef) []).bind (retD TT Try.f69.results.toList 0) = (spec_l02Blank_T v6 v7).bind fun y => .leaf (spec_l02Blank_enc v6 v7 y) := by kernel_rfl
theorem spec_l02Blank_fn (v6 : Int) (v7 : Int) (F : Fr) (hm : F.ids.length = 0) (h0 : St F [] F.H0) (hA : DVs.Ok F [] [.int .i64 v6, .int .i64 v7]) {y : Int × Int} (hy : spec_l02Blank_g v6 v7 = some y) : ∃ H', FnOk Try.prog 69 (DVs.av F [.int .i64 v6, .int .i64 v7]) F.H0 ((spec_l02Blank_enc v6 v7 y).1.av F) H' ∧ St F (spec_l02Blank_enc v6 v7 y).2 H' ∧ (spec_l02Blank_enc v6 v7 y).1.Ok F (spec_l02Blank_enc v6 v7 y).2 :=
  fn_fin tok spec_l02Blank_hO mixed Try.func69 Try.call69 (by kernel_rfl) (LoopsOk_eq (l := []) (by kernel_rfl) trivial) (spec_l02Blank_den v6 v7) hy hm h0 hA
def spec_l02Blank_v (v6 : Int) (v7 : Int) : Int × Int :=
  (v6, v7)
theorem spec_l02Blank_tot (v6 : Int) (v7 : Int) : spec_l02Blank_g v6 v7 = some (spec_l02Blank_v v6 v7) := by
  unfold spec_l02Blank_g spec_l02Blank_T spec_l02Blank_v
  simp only [Tree.run]
  repeat' (first | rfl | split)
noncomputable def spec_l02Blank_F : DFn := fun args L =>
  match args with
  | [.int .i64 v6, .int .i64 v7] =>
    .leaf (.agg [.int .i64 ((spec_l02Blank_v v6 v7).1), .int .i64 ((spec_l02Blank_v v6 v7).2), .own (L.length + 0) 0 ((([] : List Nat)).length)], L ++ [.row (.f32 ([] : List Nat)) 0])
  | _ => .fail
theorem spec_l02Blank_Fok : COk Try.prog 69 spec_l02Blank_F true := by
  intro F L H args r L' hs ha hr
  unfold spec_l02Blank_F at hr
  split at hr
  · rename_i v6 v7
    have hy := spec_l02Blank_tot v6 v7
    generalize spec_l02Blank_v v6 v7 = y at hy hr
    simp only [Tree.run, Option.some.injEq, Prod.mk.injEq] at hr
    obtain ⟨rfl, rfl⟩ := hr
    exact call_ok1 hs (fun k => (([] : List AV)[k]?).getD .top) [.int .i64 v6, .int .i64 v7] [.int .i64 v6, .int .i64 v7] (fun F' h0 hi hρ => ⟨by simp [DVs.av, DV.av, BR.av, hρ], spec_l02Blank_fn v6 v7 F' (by rw [hi]; rfl) (st_nil hi) ⟨trivial, trivial, trivial⟩ hy⟩) rfl rfl
  · cases hr
/-! spec.l01From -/
noncomputable def spec_l01From_LO (v10 : Int) : LOr := fun id e L =>
  match id with
  | _ => .fail
noncomputable def spec_l01From_tab : List (FuncId × DFn × Bool) := [(71, From32_F, true)]
theorem spec_l01From_hO : OrcOk Try.prog (tabD spec_l01From_tab) (tabM spec_l01From_tab) := tabD_cons From32_Fok (tabD_nil _)
noncomputable def spec_l01From_T (v10 : Int) : Tree (Nat) :=
  .leaf (canon .f32 (Int.toNat (IntKind.u32.wrap (v10))))

noncomputable def spec_l01From_g (v10 : Int) : Option (Nat) := (spec_l01From_T v10).run
def spec_l01From_enc (v10 : Int) (y : Nat) : Rs := (.flt .f32 y, [])
theorem spec_l01From_den (v10 : Int) : (den TT (tabD spec_l01From_tab) (tabM spec_l01From_tab) (spec_l01From_LO v10) (codeOf Try.f70) ([.int .i64 v10] ++ List.replicate (Try.f70.ntmps - ([.int .i64 v10] : List DV).length) .undef) []).bind (retD TT Try.f70.results.toList 0) = (spec_l01From_T v10).bind fun y => .leaf (spec_l01From_enc v10 y) := by kernel_rfl
theorem spec_l01From_fn (v10 : Int) (F : Fr) (hm : F.ids.length = 0) (h0 : St F [] F.H0) (hA : DVs.Ok F [] [.int .i64 v10]) {y : Nat} (hy : spec_l01From_g v10 = some y) : ∃ H', FnOk Try.prog 70 (DVs.av F [.int .i64 v10]) F.H0 ((spec_l01From_enc v10 y).1.av F) H' ∧ St F (spec_l01From_enc v10 y).2 H' ∧ (spec_l01From_enc v10 y).1.Ok F (spec_l01From_enc v10 y).2 :=
  fn_fin tok spec_l01From_hO mixed Try.func70 Try.call70 (by kernel_rfl) (LoopsOk_eq (l := []) (by kernel_rfl) trivial) (spec_l01From_den v10) hy hm h0 hA
def spec_l01From_v (v10 : Int) : Nat :=
  canon .f32 (Int.toNat (IntKind.u32.wrap (v10)))
theorem spec_l01From_tot (v10 : Int) : spec_l01From_g v10 = some (spec_l01From_v v10) := by
  unfold spec_l01From_g spec_l01From_T spec_l01From_v
  simp only [Tree.run]
  repeat' (first | rfl | split)
noncomputable def spec_l01From_F : DFn := fun args L =>
  match args with
  | [.int .i64 v10] =>
    .leaf (.flt .f32 (spec_l01From_v v10), L)
  | _ => .fail
theorem spec_l01From_Fok : COk Try.prog 70 spec_l01From_F true := by
  intro F L H args r L' hs ha hr
  unfold spec_l01From_F at hr
  split at hr
  · rename_i v10
    have hy := spec_l01From_tot v10
    generalize spec_l01From_v v10 = y at hy hr
    simp only [Tree.run, Option.some.injEq, Prod.mk.injEq] at hr
    obtain ⟨rfl, rfl⟩ := hr
    exact call_ok0 hs (fun k => (([] : List AV)[k]?).getD .top) [.int .i64 v10] [.int .i64 v10] (fun F' h0 hi hρ => ⟨by simp [DVs.av, DV.av, BR.av, hρ], spec_l01From_fn v10 F' (by rw [hi]; rfl) (st_nil hi) ⟨trivial, trivial⟩ hy⟩) rfl
  · cases hr
/-! spec.l07Name -/
noncomputable def spec_l07Name_l0_T (v22 : ByteArray) (s : Int) : Tree ((Int) ⊕ ((Unit) ⊕ (Unit))) :=
  (.br (decide (s < ((v22.size : Nat) : Int))) (
   (.grd (inb s v22.size) <|
   (.br (decide (bt v22 s < (97 : Int))) (
    .leaf (.inr (.inl ()))
   ) (
    (.grd (inb s v22.size) <|
    (.br (decide ((122 : Int) < bt v22 s)) (
     .leaf (.inr (.inl ()))
    ) (
     .leaf (.inl (IntKind.i64.wrap (s + (1 : Int))))
    )))
   )))
  ) (
   .leaf (.inr (.inr ()))
  ))

noncomputable def spec_l07Name_l0_g (v22 : ByteArray) (s0 : Int) : Option ((Unit) ⊕ (Unit)) := whileM (fun s => (spec_l07Name_l0_T v22 s).run) s0
def spec_l07Name_l0_E (v22 : ByteArray) (s : Int) : Sd := ([.str v22, .top, .top, .int .i64 s, .top, .top, .top, .top, .top, .top, .top, .top, .top, .top, .top, .top, .top, .top, .top, .top, .top, .top, .top, .top, .top, .top, .top, .top], [])
def spec_l07Name_l0_X (v22 : ByteArray) (x : (Unit) ⊕ (Unit)) : Out := (match x with | .inl x => (.ret, [.top, .top, .lit false, .top, .top, .top, .top, .top, .top, .top, .top, .top, .top, .top, .top, .top, .top, .top, .top, .top, .top, .top, .top, .top, .top, .top, .top, .top], []) | .inr x => (.normal, [.str v22, .top, .top, .top, .top, .top, .top, .top, .top, .top, .top, .top, .top, .top, .top, .top, .top, .top, .top, .top, .top, .top, .top, .top, .top, .top, .top, .top], []))
def spec_l07Name_l0_kill : List Nat := [0, 1, 1, 0, 1, 1, 1, 1, 1, 1, 1, 1, 1, 1, 1, 1, 1, 1, 1, 1, 1, 1, 1, 1, 1, 1, 1, 1]
def spec_l07Name_l0_nx : Exit → List Nat
  | .exit 0 => [0, 1, 1, 1, 1, 1, 1, 1, 1, 1, 1, 1, 1, 1, 1, 1, 1, 1, 1, 1, 1, 1, 1, 1, 1, 1, 1, 1]
  | .ret => [1, 1, 0, 1, 1, 1, 1, 1, 1, 1, 1, 1, 1, 1, 1, 1, 1, 1, 1, 1, 1, 1, 1, 1, 1, 1, 1, 1]
  | _ => []
noncomputable def spec_l07Name_LO (v22 : ByteArray) : LOr := fun id e L =>
  match id with
  | 0 => .need (normA 0 spec_l07Name_l0_kill e L = some (spec_l07Name_l0_E v22 (gI (vAt e 3)))) (.call (spec_l07Name_l0_g v22 (gI (vAt e 3))) fun x => .sum x (fun b0 => .leaf (spec_l07Name_l0_X v22 (.inl b0))) (fun c0 => .leaf (spec_l07Name_l0_X v22 (.inr c0))))
  | _ => .fail
noncomputable def spec_l07Name_tab : List (FuncId × DFn × Bool) := []
theorem spec_l07Name_hO : OrcOk Try.prog (tabD spec_l07Name_tab) (tabM spec_l07Name_tab) := tabD_nil _
theorem spec_l07Name_l0_be (v22 : ByteArray) (s : Int) : bodyT TT (tabD spec_l07Name_tab) (tabM spec_l07Name_tab) (spec_l07Name_LO v22) 0 spec_l07Name_l0_kill spec_l07Name_l0_nx (bodyOf Try.f60 0) 0 (spec_l07Name_l0_E v22 s) = (spec_l07Name_l0_T v22 s).bind fun y => .leaf (outS (spec_l07Name_l0_E v22) (spec_l07Name_l0_X v22) y) := by kernel_rfl
theorem spec_l07Name_l0_ok (v22 : ByteArray) : LSound Try.prog 0 (spec_l07Name_LO v22) 0 (bodyOf Try.f60 0) := by
  intro e L out h
  exact lo_ok (E := spec_l07Name_l0_E v22) (gT := spec_l07Name_l0_T v22) (X := spec_l07Name_l0_X v22) (s0 := (gI (vAt e 3))) tok spec_l07Name_hO mixed (LoopsOk_eq (l := []) (by kernel_rfl) trivial) (spec_l07Name_l0_be v22) rfl (by intro x; (cases x with | inl b => rfl | inr x => exact rfl)) h
noncomputable def spec_l07Name_T (v22 : ByteArray) : Tree (Bool) :=
  (.need (some (spec_l07Name_l0_E v22 (0 : Int)) = some (spec_l07Name_l0_E v22 (0 : Int))) <|
  (.call (spec_l07Name_l0_g v22 (0 : Int)) fun v26 =>
  (.sum v26 (fun v27 =>
   .leaf false
  ) (fun v28 =>
   (.br (decide ((1 : Int) ≤ ((v22.size : Nat) : Int))) (
    .leaf (decide (((v22.size : Nat) : Int) ≤ (8 : Int)))
   ) (
    .leaf false
   ))
  ))))

noncomputable def spec_l07Name_g (v22 : ByteArray) : Option (Bool) := (spec_l07Name_T v22).run
def spec_l07Name_enc (v22 : ByteArray) (y : Bool) : Rs := (.bool y, [])
theorem spec_l07Name_den (v22 : ByteArray) : (den TT (tabD spec_l07Name_tab) (tabM spec_l07Name_tab) (spec_l07Name_LO v22) (codeOf Try.f60) ([.str v22] ++ List.replicate (Try.f60.ntmps - ([.str v22] : List DV).length) .undef) []).bind (retD TT Try.f60.results.toList 0) = (spec_l07Name_T v22).bind fun y => .leaf (spec_l07Name_enc v22 y) := by kernel_rfl
theorem spec_l07Name_fn (v22 : ByteArray) (F : Fr) (hm : F.ids.length = 0) (h0 : St F [] F.H0) (hA : DVs.Ok F [] [.str v22]) {y : Bool} (hy : spec_l07Name_g v22 = some y) : ∃ H', FnOk Try.prog 60 (DVs.av F [.str v22]) F.H0 ((spec_l07Name_enc v22 y).1.av F) H' ∧ St F (spec_l07Name_enc v22 y).2 H' ∧ (spec_l07Name_enc v22 y).1.Ok F (spec_l07Name_enc v22 y).2 :=
  fn_fin tok spec_l07Name_hO mixed Try.func60 Try.call60 (by kernel_rfl) (LoopsOk_eq (l := [(0, bodyOf Try.f60 0)]) (by kernel_rfl) ⟨spec_l07Name_l0_ok v22, trivial⟩) (spec_l07Name_den v22) hy hm h0 hA
noncomputable def spec_l07Name_F : DFn := fun args L =>
  match args with
  | [.str v22] =>
    .call (spec_l07Name_g v22) fun y => .leaf (.bool y, L)
  | _ => .fail
theorem spec_l07Name_Fok : COk Try.prog 60 spec_l07Name_F true := by
  intro F L H args r L' hs ha hr
  unfold spec_l07Name_F at hr
  split at hr
  · rename_i v22
    simp only [Tree.run] at hr
    obtain ⟨y, hy, hr⟩ := Option.bind_eq_some_iff.1 hr
    simp only [Tree.run, Option.some.injEq, Prod.mk.injEq] at hr
    obtain ⟨rfl, rfl⟩ := hr
    exact call_ok0 hs (fun k => (([] : List AV)[k]?).getD .top) [.str v22] [.str v22] (fun F' h0 hi hρ => ⟨by simp [DVs.av, DV.av, BR.av, hρ], spec_l07Name_fn v22 F' (by rw [hi]; rfl) (st_nil hi) ⟨trivial, trivial⟩ hy⟩) rfl
  · cases hr
/-! spec.l00In -/
noncomputable def spec_l00In_LO (v35 : Int) (v36 : Int) (v37 : Int) : LOr := fun id e L =>
  match id with
  | _ => .fail
noncomputable def spec_l00In_tab : List (FuncId × DFn × Bool) := []
theorem spec_l00In_hO : OrcOk Try.prog (tabD spec_l00In_tab) (tabM spec_l00In_tab) := tabD_nil _
noncomputable def spec_l00In_T (v35 : Int) (v36 : Int) (v37 : Int) : Tree (Bool) :=
  (.br (decide (v36 ≤ v35)) (
   .leaf (decide (v35 ≤ v37))
  ) (
   .leaf false
  ))

noncomputable def spec_l00In_g (v35 : Int) (v36 : Int) (v37 : Int) : Option (Bool) := (spec_l00In_T v35 v36 v37).run
def spec_l00In_enc (v35 : Int) (v36 : Int) (v37 : Int) (y : Bool) : Rs := (.bool y, [])
theorem spec_l00In_den (v35 : Int) (v36 : Int) (v37 : Int) : (den TT (tabD spec_l00In_tab) (tabM spec_l00In_tab) (spec_l00In_LO v35 v36 v37) (codeOf Try.f92) ([.int .i64 v35, .int .i64 v36, .int .i64 v37] ++ List.replicate (Try.f92.ntmps - ([.int .i64 v35, .int .i64 v36, .int .i64 v37] : List DV).length) .undef) []).bind (retD TT Try.f92.results.toList 0) = (spec_l00In_T v35 v36 v37).bind fun y => .leaf (spec_l00In_enc v35 v36 v37 y) := by kernel_rfl
theorem spec_l00In_fn (v35 : Int) (v36 : Int) (v37 : Int) (F : Fr) (hm : F.ids.length = 0) (h0 : St F [] F.H0) (hA : DVs.Ok F [] [.int .i64 v35, .int .i64 v36, .int .i64 v37]) {y : Bool} (hy : spec_l00In_g v35 v36 v37 = some y) : ∃ H', FnOk Try.prog 92 (DVs.av F [.int .i64 v35, .int .i64 v36, .int .i64 v37]) F.H0 ((spec_l00In_enc v35 v36 v37 y).1.av F) H' ∧ St F (spec_l00In_enc v35 v36 v37 y).2 H' ∧ (spec_l00In_enc v35 v36 v37 y).1.Ok F (spec_l00In_enc v35 v36 v37 y).2 :=
  fn_fin tok spec_l00In_hO mixed Try.func92 Try.call92 (by kernel_rfl) (LoopsOk_eq (l := []) (by kernel_rfl) trivial) (spec_l00In_den v35 v36 v37) hy hm h0 hA
def spec_l00In_v (v35 : Int) (v36 : Int) (v37 : Int) : Bool :=
  if (decide (v36 ≤ v35)) = true then (
   decide (v35 ≤ v37)
  ) else (
   false
  )
theorem spec_l00In_tot (v35 : Int) (v36 : Int) (v37 : Int) : spec_l00In_g v35 v36 v37 = some (spec_l00In_v v35 v36 v37) := by
  unfold spec_l00In_g spec_l00In_T spec_l00In_v
  simp only [Tree.run]
  repeat' (first | rfl | split)
noncomputable def spec_l00In_F : DFn := fun args L =>
  match args with
  | [.int .i64 v35, .int .i64 v36, .int .i64 v37] =>
    .leaf (.bool (spec_l00In_v v35 v36 v37), L)
  | _ => .fail
theorem spec_l00In_Fok : COk Try.prog 92 spec_l00In_F true := by
  intro F L H args r L' hs ha hr
  unfold spec_l00In_F at hr
  split at hr
  · rename_i v35 v36 v37
    have hy := spec_l00In_tot v35 v36 v37
    generalize spec_l00In_v v35 v36 v37 = y at hy hr
    simp only [Tree.run, Option.some.injEq, Prod.mk.injEq] at hr
    obtain ⟨rfl, rfl⟩ := hr
    exact call_ok0 hs (fun k => (([] : List AV)[k]?).getD .top) [.int .i64 v35, .int .i64 v36, .int .i64 v37] [.int .i64 v35, .int .i64 v36, .int .i64 v37] (fun F' h0 hi hρ => ⟨by simp [DVs.av, DV.av, BR.av, hρ], spec_l00In_fn v35 v36 v37 F' (by rw [hi]; rfl) (st_nil hi) ⟨trivial, trivial, trivial, trivial⟩ hy⟩) rfl
  · cases hr
/-! spec.l02Sides -/
noncomputable def spec_l02Sides_LO (v33 : Int) (v34 : Int) : LOr := fun id e L =>
  match id with
  | _ => .fail
noncomputable def spec_l02Sides_tab : List (FuncId × DFn × Bool) := [(92, spec_l00In_F, true)]
theorem spec_l02Sides_hO : OrcOk Try.prog (tabD spec_l02Sides_tab) (tabM spec_l02Sides_tab) := tabD_cons spec_l00In_Fok (tabD_nil _)
noncomputable def spec_l02Sides_T (v33 : Int) (v34 : Int) : Tree (Bool) :=
  (.br (spec_l00In_v v33 (1 : Int) (12 : Int)) (
   .leaf (spec_l00In_v v34 (1 : Int) (12 : Int))
  ) (
   .leaf false
  ))

noncomputable def spec_l02Sides_g (v33 : Int) (v34 : Int) : Option (Bool) := (spec_l02Sides_T v33 v34).run
def spec_l02Sides_enc (v33 : Int) (v34 : Int) (y : Bool) : Rs := (.bool y, [])
theorem spec_l02Sides_den (v33 : Int) (v34 : Int) : (den TT (tabD spec_l02Sides_tab) (tabM spec_l02Sides_tab) (spec_l02Sides_LO v33 v34) (codeOf Try.f82) ([.int .i64 v33, .int .i64 v34] ++ List.replicate (Try.f82.ntmps - ([.int .i64 v33, .int .i64 v34] : List DV).length) .undef) []).bind (retD TT Try.f82.results.toList 0) = (spec_l02Sides_T v33 v34).bind fun y => .leaf (spec_l02Sides_enc v33 v34 y) := by kernel_rfl
theorem spec_l02Sides_fn (v33 : Int) (v34 : Int) (F : Fr) (hm : F.ids.length = 0) (h0 : St F [] F.H0) (hA : DVs.Ok F [] [.int .i64 v33, .int .i64 v34]) {y : Bool} (hy : spec_l02Sides_g v33 v34 = some y) : ∃ H', FnOk Try.prog 82 (DVs.av F [.int .i64 v33, .int .i64 v34]) F.H0 ((spec_l02Sides_enc v33 v34 y).1.av F) H' ∧ St F (spec_l02Sides_enc v33 v34 y).2 H' ∧ (spec_l02Sides_enc v33 v34 y).1.Ok F (spec_l02Sides_enc v33 v34 y).2 :=
  fn_fin tok spec_l02Sides_hO mixed Try.func82 Try.call82 (by kernel_rfl) (LoopsOk_eq (l := []) (by kernel_rfl) trivial) (spec_l02Sides_den v33 v34) hy hm h0 hA
def spec_l02Sides_v (v33 : Int) (v34 : Int) : Bool :=
  if (spec_l00In_v v33 (1 : Int) (12 : Int)) = true then (
   (spec_l00In_v v34 (1 : Int) (12 : Int))
  ) else (
   false
  )
theorem spec_l02Sides_tot (v33 : Int) (v34 : Int) : spec_l02Sides_g v33 v34 = some (spec_l02Sides_v v33 v34) := by
  unfold spec_l02Sides_g spec_l02Sides_T spec_l02Sides_v
  simp only [Tree.run]
  repeat' (first | rfl | split)
noncomputable def spec_l02Sides_F : DFn := fun args L =>
  match args with
  | [.int .i64 v33, .int .i64 v34] =>
    .leaf (.bool (spec_l02Sides_v v33 v34), L)
  | _ => .fail
theorem spec_l02Sides_Fok : COk Try.prog 82 spec_l02Sides_F true := by
  intro F L H args r L' hs ha hr
  unfold spec_l02Sides_F at hr
  split at hr
  · rename_i v33 v34
    have hy := spec_l02Sides_tot v33 v34
    generalize spec_l02Sides_v v33 v34 = y at hy hr
    simp only [Tree.run, Option.some.injEq, Prod.mk.injEq] at hr
    obtain ⟨rfl, rfl⟩ := hr
    exact call_ok0 hs (fun k => (([] : List AV)[k]?).getD .top) [.int .i64 v33, .int .i64 v34] [.int .i64 v33, .int .i64 v34] (fun F' h0 hi hρ => ⟨by simp [DVs.av, DV.av, BR.av, hρ], spec_l02Sides_fn v33 v34 F' (by rw [hi]; rfl) (st_nil hi) ⟨trivial, trivial, trivial⟩ hy⟩) rfl
  · cases hr
/-! spec.l01Finite -/
noncomputable def spec_l01Finite_LO (v40 : Nat) : LOr := fun id e L =>
  match id with
  | _ => .fail
noncomputable def spec_l01Finite_tab : List (FuncId × DFn × Bool) := []
theorem spec_l01Finite_hO : OrcOk Try.prog (tabD spec_l01Finite_tab) (tabM spec_l01Finite_tab) := tabD_nil _
noncomputable def spec_l01Finite_T (v40 : Nat) : Tree (Bool) :=
  .leaf (feq .f32 (fsub .f32 v40 v40) (0 : Nat))

noncomputable def spec_l01Finite_g (v40 : Nat) : Option (Bool) := (spec_l01Finite_T v40).run
def spec_l01Finite_enc (v40 : Nat) (y : Bool) : Rs := (.bool y, [])
theorem spec_l01Finite_den (v40 : Nat) : (den TT (tabD spec_l01Finite_tab) (tabM spec_l01Finite_tab) (spec_l01Finite_LO v40) (codeOf Try.f93) ([.flt .f32 v40] ++ List.replicate (Try.f93.ntmps - ([.flt .f32 v40] : List DV).length) .undef) []).bind (retD TT Try.f93.results.toList 0) = (spec_l01Finite_T v40).bind fun y => .leaf (spec_l01Finite_enc v40 y) := by kernel_rfl
theorem spec_l01Finite_fn (v40 : Nat) (F : Fr) (hm : F.ids.length = 0) (h0 : St F [] F.H0) (hA : DVs.Ok F [] [.flt .f32 v40]) {y : Bool} (hy : spec_l01Finite_g v40 = some y) : ∃ H', FnOk Try.prog 93 (DVs.av F [.flt .f32 v40]) F.H0 ((spec_l01Finite_enc v40 y).1.av F) H' ∧ St F (spec_l01Finite_enc v40 y).2 H' ∧ (spec_l01Finite_enc v40 y).1.Ok F (spec_l01Finite_enc v40 y).2 :=
  fn_fin tok spec_l01Finite_hO mixed Try.func93 Try.call93 (by kernel_rfl) (LoopsOk_eq (l := []) (by kernel_rfl) trivial) (spec_l01Finite_den v40) hy hm h0 hA
def spec_l01Finite_v (v40 : Nat) : Bool :=
  feq .f32 (fsub .f32 v40 v40) (0 : Nat)
theorem spec_l01Finite_tot (v40 : Nat) : spec_l01Finite_g v40 = some (spec_l01Finite_v v40) := by
  unfold spec_l01Finite_g spec_l01Finite_T spec_l01Finite_v
  simp only [Tree.run]
  repeat' (first | rfl | split)
noncomputable def spec_l01Finite_F : DFn := fun args L =>
  match args with
  | [.flt .f32 v40] =>
    .leaf (.bool (spec_l01Finite_v v40), L)
  | _ => .fail
theorem spec_l01Finite_Fok : COk Try.prog 93 spec_l01Finite_F true := by
  intro F L H args r L' hs ha hr
  unfold spec_l01Finite_F at hr
  split at hr
  · rename_i v40
    have hy := spec_l01Finite_tot v40
    generalize spec_l01Finite_v v40 = y at hy hr
    simp only [Tree.run, Option.some.injEq, Prod.mk.injEq] at hr
    obtain ⟨rfl, rfl⟩ := hr
    exact call_ok0 hs (fun k => (([] : List AV)[k]?).getD .top) [.flt .f32 v40] [.flt .f32 v40] (fun F' h0 hi hρ => ⟨by simp [DVs.av, DV.av, BR.av, hρ], spec_l01Finite_fn v40 F' (by rw [hi]; rfl) (st_nil hi) ⟨trivial, trivial⟩ hy⟩) rfl
  · cases hr
/-! spec.l02Finite -/
noncomputable def spec_l02Finite_l0_T (v38 : List Nat) (s : Int) : Tree ((Int) ⊕ ((Unit) ⊕ (Unit))) :=
  (.br (decide (s < ((v38.length : Nat) : Int))) (
   (.grd (inb s v38.length) <|
   (.br (!(spec_l01Finite_v (nth v38 (Int.toNat s)))) (
    .leaf (.inr (.inl ()))
   ) (
    .leaf (.inl (IntKind.i64.wrap (s + (1 : Int))))
   )))
  ) (
   .leaf (.inr (.inr ()))
  ))

noncomputable def spec_l02Finite_l0_g (v38 : List Nat) (s0 : Int) : Option ((Unit) ⊕ (Unit)) := whileM (fun s => (spec_l02Finite_l0_T v38 s).run) s0
def spec_l02Finite_l0_E (v38 : List Nat) (s : Int) : Sd := ([.bslc (BR.root 0) (.f32 v38), .top, .top, .int .i64 s, .top, .top, .top, .top, .top, .top, .top, .top, .top, .top, .top, .top], [])
def spec_l02Finite_l0_X (v38 : List Nat) (x : (Unit) ⊕ (Unit)) : Out := (match x with | .inl x => (.ret, [.top, .top, .lit false, .top, .top, .top, .top, .top, .top, .top, .top, .top, .top, .top, .top, .top], []) | .inr x => (.normal, [.top, .top, .top, .top, .top, .top, .top, .top, .top, .top, .top, .top, .top, .top, .top, .top], []))
def spec_l02Finite_l0_kill : List Nat := [0, 1, 1, 0, 1, 1, 1, 1, 1, 1, 1, 1, 1, 1, 1, 1]
def spec_l02Finite_l0_nx : Exit → List Nat
  | .exit 0 => [1, 1, 1, 1, 1, 1, 1, 1, 1, 1, 1, 1, 1, 1, 1, 1]
  | .ret => [1, 1, 0, 1, 1, 1, 1, 1, 1, 1, 1, 1, 1, 1, 1, 1]
  | _ => []
noncomputable def spec_l02Finite_LO (v38 : List Nat) : LOr := fun id e L =>
  match id with
  | 0 => .need (normA 0 spec_l02Finite_l0_kill e L = some (spec_l02Finite_l0_E v38 (gI (vAt e 3)))) (.call (spec_l02Finite_l0_g v38 (gI (vAt e 3))) fun x => .sum x (fun b0 => .leaf (spec_l02Finite_l0_X v38 (.inl b0))) (fun c0 => .leaf (spec_l02Finite_l0_X v38 (.inr c0))))
  | _ => .fail
noncomputable def spec_l02Finite_tab : List (FuncId × DFn × Bool) := [(93, spec_l01Finite_F, true)]
theorem spec_l02Finite_hO : OrcOk Try.prog (tabD spec_l02Finite_tab) (tabM spec_l02Finite_tab) := tabD_cons spec_l01Finite_Fok (tabD_nil _)
theorem spec_l02Finite_l0_be (v38 : List Nat) (s : Int) : bodyT TT (tabD spec_l02Finite_tab) (tabM spec_l02Finite_tab) (spec_l02Finite_LO v38) 0 spec_l02Finite_l0_kill spec_l02Finite_l0_nx (bodyOf Try.f83 0) 0 (spec_l02Finite_l0_E v38 s) = (spec_l02Finite_l0_T v38 s).bind fun y => .leaf (outS (spec_l02Finite_l0_E v38) (spec_l02Finite_l0_X v38) y) := by kernel_rfl
theorem spec_l02Finite_l0_ok (v38 : List Nat) : LSound Try.prog 0 (spec_l02Finite_LO v38) 0 (bodyOf Try.f83 0) := by
  intro e L out h
  exact lo_ok (E := spec_l02Finite_l0_E v38) (gT := spec_l02Finite_l0_T v38) (X := spec_l02Finite_l0_X v38) (s0 := (gI (vAt e 3))) tok spec_l02Finite_hO mixed (LoopsOk_eq (l := []) (by kernel_rfl) trivial) (spec_l02Finite_l0_be v38) rfl (by intro x; (cases x with | inl b => rfl | inr x => exact rfl)) h
noncomputable def spec_l02Finite_T (v38 : List Nat) : Tree (Bool) :=
  (.need (some (spec_l02Finite_l0_E v38 (0 : Int)) = some (spec_l02Finite_l0_E v38 (0 : Int))) <|
  (.call (spec_l02Finite_l0_g v38 (0 : Int)) fun v43 =>
  (.sum v43 (fun v44 =>
   .leaf false
  ) (fun v45 =>
   .leaf true
  ))))

noncomputable def spec_l02Finite_g (v38 : List Nat) : Option (Bool) := (spec_l02Finite_T v38).run
def spec_l02Finite_enc (v38 : List Nat) (y : Bool) : Rs := (.bool y, [])
theorem spec_l02Finite_den (v38 : List Nat) : (den TT (tabD spec_l02Finite_tab) (tabM spec_l02Finite_tab) (spec_l02Finite_LO v38) (codeOf Try.f83) ([.bslc (BR.root 0) (.f32 v38)] ++ List.replicate (Try.f83.ntmps - ([.bslc (BR.root 0) (.f32 v38)] : List DV).length) .undef) []).bind (retD TT Try.f83.results.toList 0) = (spec_l02Finite_T v38).bind fun y => .leaf (spec_l02Finite_enc v38 y) := by kernel_rfl
theorem spec_l02Finite_fn (v38 : List Nat) (F : Fr) (hm : F.ids.length = 0) (h0 : St F [] F.H0) (hA : DVs.Ok F [] [.bslc (BR.root 0) (.f32 v38)]) {y : Bool} (hy : spec_l02Finite_g v38 = some y) : ∃ H', FnOk Try.prog 83 (DVs.av F [.bslc (BR.root 0) (.f32 v38)]) F.H0 ((spec_l02Finite_enc v38 y).1.av F) H' ∧ St F (spec_l02Finite_enc v38 y).2 H' ∧ (spec_l02Finite_enc v38 y).1.Ok F (spec_l02Finite_enc v38 y).2 :=
  fn_fin tok spec_l02Finite_hO mixed Try.func83 Try.call83 (by kernel_rfl) (LoopsOk_eq (l := [(0, bodyOf Try.f83 0)]) (by kernel_rfl) ⟨spec_l02Finite_l0_ok v38, trivial⟩) (spec_l02Finite_den v38) hy hm h0 hA
noncomputable def spec_l02Finite_F : DFn := fun args L =>
  match args with
  | [a1] =>
    optT (rowF32 L a1) fun v38 =>
    .call (spec_l02Finite_g v38) fun y => .leaf (.bool y, L)
  | _ => .fail
theorem spec_l02Finite_Fok : COk Try.prog 83 spec_l02Finite_F true := by
  intro F L H args r L' hs ha hr
  unfold spec_l02Finite_F at hr
  split at hr
  · rename_i a1
    obtain ⟨v38, hv38, hr⟩ := optT_run hr
    simp only [Tree.run] at hr
    obtain ⟨y, hy, hr⟩ := Option.bind_eq_some_iff.1 hr
    simp only [Tree.run, Option.some.injEq, Prod.mk.injEq] at hr
    obtain ⟨rfl, rfl⟩ := hr
    exact call_ok0 hs (fun k => (([a1.av F] : List AV)[k]?).getD .top) [a1] [.bslc (BR.root 0) (.f32 v38)] (fun F' h0 hi hρ => ⟨by simp [DVs.av, DV.av, BR.av, hρ], spec_l02Finite_fn v38 F' (by rw [hi]; rfl) (st_nil hi) ⟨bslc_ok hi (by rw [h0, hρ]; exact rowF32_ok hs (DVs.okAt ha 0 rfl) hv38), trivial⟩ hy⟩) rfl
  · cases hr
/-! spec.l02Is -/
noncomputable def spec_l02Is_LO (v30 : Int) (v31 : Int) (v32 : List Nat) : LOr := fun id e L =>
  match id with
  | _ => .fail
noncomputable def spec_l02Is_tab : List (FuncId × DFn × Bool) := [(82, spec_l02Sides_F, true), (83, spec_l02Finite_F, true)]
theorem spec_l02Is_hO : OrcOk Try.prog (tabD spec_l02Is_tab) (tabM spec_l02Is_tab) := tabD_cons spec_l02Sides_Fok (tabD_cons spec_l02Finite_Fok (tabD_nil _))
noncomputable def spec_l02Is_T (v30 : Int) (v31 : Int) (v32 : List Nat) : Tree (Bool) :=
  (.br (spec_l02Sides_v v30 v31) (
   (.br (decide (((v32.length : Nat) : Int) = IntKind.i64.wrap (v30 * v31))) (
    (.call (spec_l02Finite_g v32) fun v46 =>
    .leaf v46)
   ) (
    .leaf false
   ))
  ) (
   .leaf false
  ))

noncomputable def spec_l02Is_g (v30 : Int) (v31 : Int) (v32 : List Nat) : Option (Bool) := (spec_l02Is_T v30 v31 v32).run
def spec_l02Is_enc (v30 : Int) (v31 : Int) (v32 : List Nat) (y : Bool) : Rs := (.bool y, [])
theorem spec_l02Is_den (v30 : Int) (v31 : Int) (v32 : List Nat) : (den TT (tabD spec_l02Is_tab) (tabM spec_l02Is_tab) (spec_l02Is_LO v30 v31 v32) (codeOf Try.f61) ([.bptr (BR.root 0) [.int .i64 v30, .int .i64 v31, .bslc (BR.root 1) (.f32 v32)]] ++ List.replicate (Try.f61.ntmps - ([.bptr (BR.root 0) [.int .i64 v30, .int .i64 v31, .bslc (BR.root 1) (.f32 v32)]] : List DV).length) .undef) []).bind (retD TT Try.f61.results.toList 0) = (spec_l02Is_T v30 v31 v32).bind fun y => .leaf (spec_l02Is_enc v30 v31 v32 y) := by kernel_rfl
theorem spec_l02Is_fn (v30 : Int) (v31 : Int) (v32 : List Nat) (F : Fr) (hm : F.ids.length = 0) (h0 : St F [] F.H0) (hA : DVs.Ok F [] [.bptr (BR.root 0) [.int .i64 v30, .int .i64 v31, .bslc (BR.root 1) (.f32 v32)]]) {y : Bool} (hy : spec_l02Is_g v30 v31 v32 = some y) : ∃ H', FnOk Try.prog 61 (DVs.av F [.bptr (BR.root 0) [.int .i64 v30, .int .i64 v31, .bslc (BR.root 1) (.f32 v32)]]) F.H0 ((spec_l02Is_enc v30 v31 v32 y).1.av F) H' ∧ St F (spec_l02Is_enc v30 v31 v32 y).2 H' ∧ (spec_l02Is_enc v30 v31 v32 y).1.Ok F (spec_l02Is_enc v30 v31 v32 y).2 :=
  fn_fin tok spec_l02Is_hO mixed Try.func61 Try.call61 (by kernel_rfl) (LoopsOk_eq (l := []) (by kernel_rfl) trivial) (spec_l02Is_den v30 v31 v32) hy hm h0 hA
noncomputable def spec_l02Is_F : DFn := fun args L =>
  match args with
  | [a1] =>
    optT (cellsOf L 3 a1) fun cs0 =>
    (match cs0 with
    | [.int .i64 v30, .int .i64 v31, a2] =>
    optT (rowF32 L a2) fun v32 =>
    .call (spec_l02Is_g v30 v31 v32) fun y => .leaf (.bool y, L)
    | _ => .fail)
  | _ => .fail
theorem spec_l02Is_Fok : COk Try.prog 61 spec_l02Is_F true := by
  intro F L H args r L' hs ha hr
  unfold spec_l02Is_F at hr
  split at hr
  · rename_i a1
    obtain ⟨cs0, hcp0, hr⟩ := optT_run hr
    split at hr
    · rename_i v30 v31 a2
      obtain ⟨v32, hv32, hr⟩ := optT_run hr
      simp only [Tree.run] at hr
      obtain ⟨y, hy, hr⟩ := Option.bind_eq_some_iff.1 hr
      simp only [Tree.run, Option.some.injEq, Prod.mk.injEq] at hr
      obtain ⟨rfl, rfl⟩ := hr
      exact call_ok0 hs (fun k => (([a1.av F, a2.av F] : List AV)[k]?).getD .top) [a1] [.bptr (BR.root 0) [.int .i64 v30, .int .i64 v31, .bslc (BR.root 1) (.f32 v32)]] (fun F' h0 hi hρ => ⟨by simp [DVs.av, DV.av, BR.av, hρ], spec_l02Is_fn v30 v31 v32 F' (by rw [hi]; rfl) (st_nil hi) ⟨bptr_ok hi (by rw [h0]; simpa [DVs.av, DV.av, BR.av, hρ] using (cellsOf_ok hs (DVs.okAt ha 0 rfl) hcp0).1) ⟨trivial, trivial, bslc_ok hi (by rw [h0, hρ]; exact rowF32_ok hs (DVs.okAt (cellsOf_ok hs (DVs.okAt ha 0 rfl) hcp0).2 2 rfl) hv32), trivial⟩, trivial⟩ hy⟩) rfl
    · cases hr
  · cases hr
/-! spec.l07Sheet -/
noncomputable def spec_l07Sheet_LO (v18 : ByteArray) (v19 : Int) (v20 : Int) (v21 : List Nat) : LOr := fun id e L =>
  match id with
  | _ => .fail
noncomputable def spec_l07Sheet_tab : List (FuncId × DFn × Bool) := [(60, spec_l07Name_F, true), (61, spec_l02Is_F, true)]
theorem spec_l07Sheet_hO : OrcOk Try.prog (tabD spec_l07Sheet_tab) (tabM spec_l07Sheet_tab) := tabD_cons spec_l07Name_Fok (tabD_cons spec_l02Is_Fok (tabD_nil _))
noncomputable def spec_l07Sheet_T (v18 : ByteArray) (v19 : Int) (v20 : Int) (v21 : List Nat) : Tree (Bool) :=
  (.call (spec_l07Name_g v18) fun v29 =>
  (.br v29 (
   (.call (spec_l02Is_g v19 v20 v21) fun v47 =>
   .leaf v47)
  ) (
   .leaf false
  )))

noncomputable def spec_l07Sheet_g (v18 : ByteArray) (v19 : Int) (v20 : Int) (v21 : List Nat) : Option (Bool) := (spec_l07Sheet_T v18 v19 v20 v21).run
def spec_l07Sheet_enc (v18 : ByteArray) (v19 : Int) (v20 : Int) (v21 : List Nat) (y : Bool) : Rs := (.bool y, [])
theorem spec_l07Sheet_den (v18 : ByteArray) (v19 : Int) (v20 : Int) (v21 : List Nat) : (den TT (tabD spec_l07Sheet_tab) (tabM spec_l07Sheet_tab) (spec_l07Sheet_LO v18 v19 v20 v21) (codeOf Try.f34) ([.bptr (BR.root 0) [.str v18, .int .i64 v19, .int .i64 v20, .bslc (BR.root 1) (.f32 v21)]] ++ List.replicate (Try.f34.ntmps - ([.bptr (BR.root 0) [.str v18, .int .i64 v19, .int .i64 v20, .bslc (BR.root 1) (.f32 v21)]] : List DV).length) .undef) []).bind (retD TT Try.f34.results.toList 0) = (spec_l07Sheet_T v18 v19 v20 v21).bind fun y => .leaf (spec_l07Sheet_enc v18 v19 v20 v21 y) := by kernel_rfl
theorem spec_l07Sheet_fn (v18 : ByteArray) (v19 : Int) (v20 : Int) (v21 : List Nat) (F : Fr) (hm : F.ids.length = 0) (h0 : St F [] F.H0) (hA : DVs.Ok F [] [.bptr (BR.root 0) [.str v18, .int .i64 v19, .int .i64 v20, .bslc (BR.root 1) (.f32 v21)]]) {y : Bool} (hy : spec_l07Sheet_g v18 v19 v20 v21 = some y) : ∃ H', FnOk Try.prog 34 (DVs.av F [.bptr (BR.root 0) [.str v18, .int .i64 v19, .int .i64 v20, .bslc (BR.root 1) (.f32 v21)]]) F.H0 ((spec_l07Sheet_enc v18 v19 v20 v21 y).1.av F) H' ∧ St F (spec_l07Sheet_enc v18 v19 v20 v21 y).2 H' ∧ (spec_l07Sheet_enc v18 v19 v20 v21 y).1.Ok F (spec_l07Sheet_enc v18 v19 v20 v21 y).2 :=
  fn_fin tok spec_l07Sheet_hO mixed Try.func34 Try.call34 (by kernel_rfl) (LoopsOk_eq (l := []) (by kernel_rfl) trivial) (spec_l07Sheet_den v18 v19 v20 v21) hy hm h0 hA
noncomputable def spec_l07Sheet_F : DFn := fun args L =>
  match args with
  | [a1] =>
    optT (cellsOf L 4 a1) fun cs0 =>
    (match cs0 with
    | [.str v18, .int .i64 v19, .int .i64 v20, a2] =>
    optT (rowF32 L a2) fun v21 =>
    .call (spec_l07Sheet_g v18 v19 v20 v21) fun y => .leaf (.bool y, L)
    | _ => .fail)
  | _ => .fail
theorem spec_l07Sheet_Fok : COk Try.prog 34 spec_l07Sheet_F true := by
  intro F L H args r L' hs ha hr
  unfold spec_l07Sheet_F at hr
  split at hr
  · rename_i a1
    obtain ⟨cs0, hcp0, hr⟩ := optT_run hr
    split at hr
    · rename_i v18 v19 v20 a2
      obtain ⟨v21, hv21, hr⟩ := optT_run hr
      simp only [Tree.run] at hr
      obtain ⟨y, hy, hr⟩ := Option.bind_eq_some_iff.1 hr
      simp only [Tree.run, Option.some.injEq, Prod.mk.injEq] at hr
      obtain ⟨rfl, rfl⟩ := hr
      exact call_ok0 hs (fun k => (([a1.av F, a2.av F] : List AV)[k]?).getD .top) [a1] [.bptr (BR.root 0) [.str v18, .int .i64 v19, .int .i64 v20, .bslc (BR.root 1) (.f32 v21)]] (fun F' h0 hi hρ => ⟨by simp [DVs.av, DV.av, BR.av, hρ], spec_l07Sheet_fn v18 v19 v20 v21 F' (by rw [hi]; rfl) (st_nil hi) ⟨bptr_ok hi (by rw [h0]; simpa [DVs.av, DV.av, BR.av, hρ] using (cellsOf_ok hs (DVs.okAt ha 0 rfl) hcp0).1) ⟨trivial, trivial, trivial, bslc_ok hi (by rw [h0, hρ]; exact rowF32_ok hs (DVs.okAt (cellsOf_ok hs (DVs.okAt ha 0 rfl) hcp0).2 3 rfl) hv21), trivial⟩, trivial⟩ hy⟩) rfl
    · cases hr
  · cases hr
/-! spec.l01Bits -/
noncomputable def spec_l01Bits_LO (v54 : Nat) : LOr := fun id e L =>
  match id with
  | _ => .fail
noncomputable def spec_l01Bits_tab : List (FuncId × DFn × Bool) := [(84, Bits32_F, true)]
theorem spec_l01Bits_hO : OrcOk Try.prog (tabD spec_l01Bits_tab) (tabM spec_l01Bits_tab) := tabD_cons Bits32_Fok (tabD_nil _)
noncomputable def spec_l01Bits_T (v54 : Nat) : Tree (Int) :=
  (.br (!feq .f32 v54 v54) (
   .leaf (2143289344 : Int)
  ) (
   (.grd (!isNan .f32 v54) <|
   .leaf (IntKind.i64.wrap (((v54 : Nat) : Int))))
  ))

noncomputable def spec_l01Bits_g (v54 : Nat) : Option (Int) := (spec_l01Bits_T v54).run
def spec_l01Bits_enc (v54 : Nat) (y : Int) : Rs := (.int .i64 y, [])
theorem spec_l01Bits_den (v54 : Nat) : (den TT (tabD spec_l01Bits_tab) (tabM spec_l01Bits_tab) (spec_l01Bits_LO v54) (codeOf Try.f62) ([.flt .f32 v54] ++ List.replicate (Try.f62.ntmps - ([.flt .f32 v54] : List DV).length) .undef) []).bind (retD TT Try.f62.results.toList 0) = (spec_l01Bits_T v54).bind fun y => .leaf (spec_l01Bits_enc v54 y) := by kernel_rfl
theorem spec_l01Bits_fn (v54 : Nat) (F : Fr) (hm : F.ids.length = 0) (h0 : St F [] F.H0) (hA : DVs.Ok F [] [.flt .f32 v54]) {y : Int} (hy : spec_l01Bits_g v54 = some y) : ∃ H', FnOk Try.prog 62 (DVs.av F [.flt .f32 v54]) F.H0 ((spec_l01Bits_enc v54 y).1.av F) H' ∧ St F (spec_l01Bits_enc v54 y).2 H' ∧ (spec_l01Bits_enc v54 y).1.Ok F (spec_l01Bits_enc v54 y).2 :=
  fn_fin tok spec_l01Bits_hO mixed Try.func62 Try.call62 (by kernel_rfl) (LoopsOk_eq (l := []) (by kernel_rfl) trivial) (spec_l01Bits_den v54) hy hm h0 hA
noncomputable def spec_l01Bits_F : DFn := fun args L =>
  match args with
  | [.flt .f32 v54] =>
    .call (spec_l01Bits_g v54) fun y => .leaf (.int .i64 y, L)
  | _ => .fail
theorem spec_l01Bits_Fok : COk Try.prog 62 spec_l01Bits_F true := by
  intro F L H args r L' hs ha hr
  unfold spec_l01Bits_F at hr
  split at hr
  · rename_i v54
    simp only [Tree.run] at hr
    obtain ⟨y, hy, hr⟩ := Option.bind_eq_some_iff.1 hr
    simp only [Tree.run, Option.some.injEq, Prod.mk.injEq] at hr
    obtain ⟨rfl, rfl⟩ := hr
    exact call_ok0 hs (fun k => (([] : List AV)[k]?).getD .top) [.flt .f32 v54] [.flt .f32 v54] (fun F' h0 hi hρ => ⟨by simp [DVs.av, DV.av, BR.av, hρ], spec_l01Bits_fn v54 F' (by rw [hi]; rfl) (st_nil hi) ⟨trivial, trivial⟩ hy⟩) rfl
  · cases hr
/-! spec.l01Check -/
noncomputable def spec_l01Check_l0_T (v64 : ByteArray) (s : Int × Int) : Tree ((Int × Int) ⊕ (Int)) :=
  (.br (decide (s.2 < ((v64.size : Nat) : Int))) (
   (.grd (inb s.2 v64.size) <|
   (.grd (!decide ((65003 : Int) = 0)) <|
   .leaf (.inl (Int.tmod (IntKind.i64.wrap ((IntKind.i64.wrap ((IntKind.i64.wrap ((863 : Int) * s.1)) + (IntKind.i64.wrap (bt v64 s.2)))) + (157 : Int))) (65003 : Int), IntKind.i64.wrap (s.2 + (1 : Int))))))
  ) (
   .leaf (.inr s.1)
  ))

noncomputable def spec_l01Check_l0_g (v64 : ByteArray) (s0 : Int × Int) : Option (Int) := whileM (fun s => (spec_l01Check_l0_T v64 s).run) s0
def spec_l01Check_l0_E (v63 : Int) (v64 : ByteArray) (s : Int × Int) : Sd := ([.int .i64 s.1, .str v64, .top, .top, .top, .int .i64 s.2, .top, .top, .top, .top, .top, .top, .top, .top, .top, .top, .top, .top, .top, .top, .top, .top], [])
def spec_l01Check_l0_X (v63 : Int) (v64 : ByteArray) (x : Int) : Out := (.normal, [.int .i64 x, .top, .top, .top, .top, .top, .top, .top, .top, .top, .top, .top, .top, .top, .top, .top, .top, .top, .top, .top, .top, .top], [])
def spec_l01Check_l0_kill : List Nat := [0, 0, 1, 1, 1, 0, 1, 1, 1, 1, 1, 1, 1, 1, 1, 1, 1, 1, 1, 1, 1, 1]
def spec_l01Check_l0_nx : Exit → List Nat
  | .exit 0 => [0, 1, 1, 1, 1, 1, 1, 1, 1, 1, 1, 1, 1, 1, 1, 1, 1, 1, 1, 1, 1, 1]
  | .ret => [1, 1, 1, 1, 0, 1, 1, 1, 1, 1, 1, 1, 1, 1, 1, 1, 1, 1, 1, 1, 1, 1]
  | _ => []
noncomputable def spec_l01Check_LO (v63 : Int) (v64 : ByteArray) : LOr := fun id e L =>
  match id with
  | 0 => .need (normA 0 spec_l01Check_l0_kill e L = some (spec_l01Check_l0_E v63 v64 ((gI (vAt e 0)), (gI (vAt e 5))))) (.call (spec_l01Check_l0_g v64 ((gI (vAt e 0)), (gI (vAt e 5)))) fun x => .leaf (spec_l01Check_l0_X v63 v64 x))
  | _ => .fail
noncomputable def spec_l01Check_tab : List (FuncId × DFn × Bool) := []
theorem spec_l01Check_hO : OrcOk Try.prog (tabD spec_l01Check_tab) (tabM spec_l01Check_tab) := tabD_nil _
theorem spec_l01Check_l0_be (v63 : Int) (v64 : ByteArray) (s : Int × Int) : bodyT TT (tabD spec_l01Check_tab) (tabM spec_l01Check_tab) (spec_l01Check_LO v63 v64) 0 spec_l01Check_l0_kill spec_l01Check_l0_nx (bodyOf Try.f63 0) 0 (spec_l01Check_l0_E v63 v64 s) = (spec_l01Check_l0_T v64 s).bind fun y => .leaf (outS (spec_l01Check_l0_E v63 v64) (spec_l01Check_l0_X v63 v64) y) := by kernel_rfl
theorem spec_l01Check_l0_ok (v63 : Int) (v64 : ByteArray) : LSound Try.prog 0 (spec_l01Check_LO v63 v64) 0 (bodyOf Try.f63 0) := by
  intro e L out h
  exact lo_ok (E := spec_l01Check_l0_E v63 v64) (gT := spec_l01Check_l0_T v64) (X := spec_l01Check_l0_X v63 v64) (s0 := ((gI (vAt e 0)), (gI (vAt e 5)))) tok spec_l01Check_hO mixed (LoopsOk_eq (l := []) (by kernel_rfl) trivial) (spec_l01Check_l0_be v63 v64) rfl (by intro x; rfl) h
noncomputable def spec_l01Check_T (v63 : Int) (v64 : ByteArray) : Tree (Int) :=
  (.need (some (spec_l01Check_l0_E v63 v64 (v63, (0 : Int))) = some (spec_l01Check_l0_E v63 v64 (v63, (0 : Int)))) <|
  (.call (spec_l01Check_l0_g v64 (v63, (0 : Int))) fun v71 =>
  .leaf v71))

noncomputable def spec_l01Check_g (v63 : Int) (v64 : ByteArray) : Option (Int) := (spec_l01Check_T v63 v64).run
def spec_l01Check_enc (v63 : Int) (v64 : ByteArray) (y : Int) : Rs := (.int .i64 y, [])
theorem spec_l01Check_den (v63 : Int) (v64 : ByteArray) : (den TT (tabD spec_l01Check_tab) (tabM spec_l01Check_tab) (spec_l01Check_LO v63 v64) (codeOf Try.f63) ([.int .i64 v63, .str v64] ++ List.replicate (Try.f63.ntmps - ([.int .i64 v63, .str v64] : List DV).length) .undef) []).bind (retD TT Try.f63.results.toList 0) = (spec_l01Check_T v63 v64).bind fun y => .leaf (spec_l01Check_enc v63 v64 y) := by kernel_rfl
theorem spec_l01Check_fn (v63 : Int) (v64 : ByteArray) (F : Fr) (hm : F.ids.length = 0) (h0 : St F [] F.H0) (hA : DVs.Ok F [] [.int .i64 v63, .str v64]) {y : Int} (hy : spec_l01Check_g v63 v64 = some y) : ∃ H', FnOk Try.prog 63 (DVs.av F [.int .i64 v63, .str v64]) F.H0 ((spec_l01Check_enc v63 v64 y).1.av F) H' ∧ St F (spec_l01Check_enc v63 v64 y).2 H' ∧ (spec_l01Check_enc v63 v64 y).1.Ok F (spec_l01Check_enc v63 v64 y).2 :=
  fn_fin tok spec_l01Check_hO mixed Try.func63 Try.call63 (by kernel_rfl) (LoopsOk_eq (l := [(0, bodyOf Try.f63 0)]) (by kernel_rfl) ⟨spec_l01Check_l0_ok v63 v64, trivial⟩) (spec_l01Check_den v63 v64) hy hm h0 hA
noncomputable def spec_l01Check_F : DFn := fun args L =>
  match args with
  | [.int .i64 v63, .str v64] =>
    .call (spec_l01Check_g v63 v64) fun y => .leaf (.int .i64 y, L)
  | _ => .fail
theorem spec_l01Check_Fok : COk Try.prog 63 spec_l01Check_F true := by
  intro F L H args r L' hs ha hr
  unfold spec_l01Check_F at hr
  split at hr
  · rename_i v63 v64
    simp only [Tree.run] at hr
    obtain ⟨y, hy, hr⟩ := Option.bind_eq_some_iff.1 hr
    simp only [Tree.run, Option.some.injEq, Prod.mk.injEq] at hr
    obtain ⟨rfl, rfl⟩ := hr
    exact call_ok0 hs (fun k => (([] : List AV)[k]?).getD .top) [.int .i64 v63, .str v64] [.int .i64 v63, .str v64] (fun F' h0 hi hρ => ⟨by simp [DVs.av, DV.av, BR.av, hρ], spec_l01Check_fn v63 v64 F' (by rw [hi]; rfl) (st_nil hi) ⟨trivial, trivial, trivial⟩ hy⟩) rfl
  · cases hr
/-! spec.l07Store -/
noncomputable def spec_l07Store_l0_T (v52 : List Nat) (s : Int × (List Int)) : Tree ((Int × (List Int)) ⊕ ((List Int))) :=
  (.br (decide (s.1 < ((v52.length : Nat) : Int))) (
   (.grd (inb s.1 v52.length) <|
   (.call (spec_l01Bits_g (nth v52 (Int.toNat s.1))) fun v61 =>
   (.grd (!decide ((256 : Int) = 0)) <|
   (.grd (!decide ((256 : Int) = 0)) <|
   (.grd (!decide ((256 : Int) = 0)) <|
   (.grd (!decide ((65536 : Int) = 0)) <|
   (.grd (!decide ((256 : Int) = 0)) <|
   (.grd (!decide ((16777216 : Int) = 0)) <|
   (.grd (fits (s.2 ++ ([IntKind.u8.wrap (Int.tmod v61 (256 : Int)), IntKind.u8.wrap (Int.tmod (IntKind.i64.wrap (Int.tdiv v61 (256 : Int))) (256 : Int)), IntKind.u8.wrap (Int.tmod (IntKind.i64.wrap (Int.tdiv v61 (65536 : Int))) (256 : Int)), IntKind.u8.wrap (IntKind.i64.wrap (Int.tdiv v61 (16777216 : Int)))] : List Int)).length) <|
   .leaf (.inl (IntKind.i64.wrap (s.1 + (1 : Int)), s.2 ++ ([IntKind.u8.wrap (Int.tmod v61 (256 : Int)), IntKind.u8.wrap (Int.tmod (IntKind.i64.wrap (Int.tdiv v61 (256 : Int))) (256 : Int)), IntKind.u8.wrap (Int.tmod (IntKind.i64.wrap (Int.tdiv v61 (65536 : Int))) (256 : Int)), IntKind.u8.wrap (IntKind.i64.wrap (Int.tdiv v61 (16777216 : Int)))] : List Int))))))))))))
  ) (
   .leaf (.inr s.2)
  ))

noncomputable def spec_l07Store_l0_g (v52 : List Nat) (s0 : Int × (List Int)) : Option ((List Int)) := whileM (fun s => (spec_l07Store_l0_T v52 s).run) s0
def spec_l07Store_l0_E (v49 : ByteArray) (v50 : Int) (v51 : Int) (v52 : List Nat) (s : Int × (List Int)) : Sd := ([.bptr (BR.root 0) [.str v49, .int .i64 v50, .int .i64 v51, .bslc (BR.root 1) (.f32 v52)], .top, .top, .own 0 0 ((s.2).length), .top, .top, .top, .top, .top, .top, .top, .top, .top, .top, .top, .top, .top, .top, .top, .top, .top, .top, .top, .top, .top, .top, .top, .top, .top, .top, .top, .top, .top, .top, .top, .top, .top, .top, .top, .top, .top, .top, .top, .top, .int .i64 ((v52.length : Nat) : Int), .int .i64 s.1, .top, .top, .top, .top, .top, .top, .top, .top, .top, .top, .top, .top, .top, .top, .top, .top, .top, .top, .top, .top, .top, .top, .top, .top, .top, .top, .top, .top, .top, .top, .top, .top, .top, .top, .top, .top, .top, .top, .top, .top, .top, .top], [.row (.u8 s.2) 0])
def spec_l07Store_l0_X (v49 : ByteArray) (v50 : Int) (v51 : Int) (v52 : List Nat) (x : (List Int)) : Out := (.normal, [.top, .top, .top, .own 0 0 ((x).length), .top, .top, .top, .top, .top, .top, .top, .top, .top, .top, .top, .top, .top, .top, .top, .top, .top, .top, .top, .top, .top, .top, .top, .top, .top, .top, .top, .top, .top, .top, .top, .top, .top, .top, .top, .top, .top, .top, .top, .top, .top, .top, .top, .top, .top, .top, .top, .top, .top, .top, .top, .top, .top, .top, .top, .top, .top, .top, .top, .top, .top, .top, .top, .top, .top, .top, .top, .top, .top, .top, .top, .top, .top, .top, .top, .top, .top, .top, .top, .top, .top, .top, .top, .top], [.row (.u8 x) 0])
def spec_l07Store_l0_kill : List Nat := [0, 1, 1, 0, 1, 1, 1, 1, 1, 1, 1, 1, 1, 1, 1, 1, 1, 1, 1, 1, 1, 1, 1, 1, 1, 1, 1, 1, 1, 1, 1, 1, 1, 1, 1, 1, 1, 1, 1, 1, 1, 1, 1, 1, 0, 0, 1, 1, 1, 1, 1, 1, 1, 1, 1, 1, 1, 1, 1, 1, 1, 1, 1, 1, 1, 1, 1, 1, 1, 1, 1, 1, 1, 1, 1, 1, 1, 1, 1, 1, 1, 1, 1, 1, 1, 1, 1, 1]
def spec_l07Store_l0_nx : Exit → List Nat
  | .exit 0 => [1, 1, 1, 0, 1, 1, 1, 1, 1, 1, 1, 1, 1, 1, 1, 1, 1, 1, 1, 1, 1, 1, 1, 1, 1, 1, 1, 1, 1, 1, 1, 1, 1, 1, 1, 1, 1, 1, 1, 1, 1, 1, 1, 1, 1, 1, 1, 1, 1, 1, 1, 1, 1, 1, 1, 1, 1, 1, 1, 1, 1, 1, 1, 1, 1, 1, 1, 1, 1, 1, 1, 1, 1, 1, 1, 1, 1, 1, 1, 1, 1, 1, 1, 1, 1, 1, 1, 1]
  | .ret => [1, 1, 0, 1, 1, 1, 1, 1, 1, 1, 1, 1, 1, 1, 1, 1, 1, 1, 1, 1, 1, 1, 1, 1, 1, 1, 1, 1, 1, 1, 1, 1, 1, 1, 1, 1, 1, 1, 1, 1, 1, 1, 1, 1, 1, 1, 1, 1, 1, 1, 1, 1, 1, 1, 1, 1, 1, 1, 1, 1, 1, 1, 1, 1, 1, 1, 1, 1, 1, 1, 1, 1, 1, 1, 1, 1, 1, 1, 1, 1, 1, 1, 1, 1, 1, 1, 1, 1]
  | _ => []
noncomputable def spec_l07Store_LO (v49 : ByteArray) (v50 : Int) (v51 : Int) (v52 : List Nat) : LOr := fun id e L =>
  match id with
  | 0 => .need (normA 0 spec_l07Store_l0_kill e L = some (spec_l07Store_l0_E v49 v50 v51 v52 ((gI (vAt e 45)), (gRI L (vAt e 3))))) (.call (spec_l07Store_l0_g v52 ((gI (vAt e 45)), (gRI L (vAt e 3)))) fun x => .leaf (spec_l07Store_l0_X v49 v50 v51 v52 x))
  | _ => .fail
noncomputable def spec_l07Store_tab : List (FuncId × DFn × Bool) := [(62, spec_l01Bits_F, true), (63, spec_l01Check_F, true)]
theorem spec_l07Store_hO : OrcOk Try.prog (tabD spec_l07Store_tab) (tabM spec_l07Store_tab) := tabD_cons spec_l01Bits_Fok (tabD_cons spec_l01Check_Fok (tabD_nil _))
theorem spec_l07Store_l0_be (v49 : ByteArray) (v50 : Int) (v51 : Int) (v52 : List Nat) (s : Int × (List Int)) : bodyT TT (tabD spec_l07Store_tab) (tabM spec_l07Store_tab) (spec_l07Store_LO v49 v50 v51 v52) 0 spec_l07Store_l0_kill spec_l07Store_l0_nx (bodyOf Try.f35 0) 0 (spec_l07Store_l0_E v49 v50 v51 v52 s) = (spec_l07Store_l0_T v52 s).bind fun y => .leaf (outS (spec_l07Store_l0_E v49 v50 v51 v52) (spec_l07Store_l0_X v49 v50 v51 v52) y) := by kernel_rfl
theorem spec_l07Store_l0_ok (v49 : ByteArray) (v50 : Int) (v51 : Int) (v52 : List Nat) : LSound Try.prog 0 (spec_l07Store_LO v49 v50 v51 v52) 0 (bodyOf Try.f35 0) := by
  intro e L out h
  exact lo_ok (E := spec_l07Store_l0_E v49 v50 v51 v52) (gT := spec_l07Store_l0_T v52) (X := spec_l07Store_l0_X v49 v50 v51 v52) (s0 := ((gI (vAt e 45)), (gRI L (vAt e 3)))) tok spec_l07Store_hO mixed (LoopsOk_eq (l := []) (by kernel_rfl) trivial) (spec_l07Store_l0_be v49 v50 v51 v52) rfl (by intro x; rfl) h
noncomputable def spec_l07Store_T (v49 : ByteArray) (v50 : Int) (v51 : Int) (v52 : List Nat) : Tree (ByteArray) :=
  (.grd (decide (0 < (([(77 : Int), (65 : Int), (84 : Int), (49 : Int)] : List Int).length))) <|
  (.grd (fits (([(77 : Int), (65 : Int), (84 : Int), (49 : Int)] : List Int) ++ ([IntKind.u8.wrap (((v49.size : Nat) : Int))] : List Int)).length) <|
  (.grd (fits v49.size) <|
  (.grd (fits ((([(77 : Int), (65 : Int), (84 : Int), (49 : Int)] : List Int) ++ ([IntKind.u8.wrap (((v49.size : Nat) : Int))] : List Int)) ++ (numsS v49)).length) <|
  (.grd (fits (((([(77 : Int), (65 : Int), (84 : Int), (49 : Int)] : List Int) ++ ([IntKind.u8.wrap (((v49.size : Nat) : Int))] : List Int)) ++ (numsS v49)) ++ ([IntKind.u8.wrap (v50), IntKind.u8.wrap (v51)] : List Int)).length) <|
  (.need (some (spec_l07Store_l0_E v49 v50 v51 v52 ((0 : Int), ((([(77 : Int), (65 : Int), (84 : Int), (49 : Int)] : List Int) ++ ([IntKind.u8.wrap (((v49.size : Nat) : Int))] : List Int)) ++ (numsS v49)) ++ ([IntKind.u8.wrap (v50), IntKind.u8.wrap (v51)] : List Int))) = some (spec_l07Store_l0_E v49 v50 v51 v52 ((0 : Int), ((([(77 : Int), (65 : Int), (84 : Int), (49 : Int)] : List Int) ++ ([IntKind.u8.wrap (((v49.size : Nat) : Int))] : List Int)) ++ (numsS v49)) ++ ([IntKind.u8.wrap (v50), IntKind.u8.wrap (v51)] : List Int)))) <|
  (.call (spec_l07Store_l0_g v52 ((0 : Int), ((([(77 : Int), (65 : Int), (84 : Int), (49 : Int)] : List Int) ++ ([IntKind.u8.wrap (((v49.size : Nat) : Int))] : List Int)) ++ (numsS v49)) ++ ([IntKind.u8.wrap (v50), IntKind.u8.wrap (v51)] : List Int))) fun v62 =>
  (.call (spec_l01Check_g (0 : Int) (strOfNums v62)) fun v72 =>
  (.grd (!decide ((256 : Int) = 0)) <|
  (.grd (!decide ((256 : Int) = 0)) <|
  (.grd (fits (v62 ++ ([IntKind.u8.wrap (Int.tmod v72 (256 : Int)), IntKind.u8.wrap (IntKind.i64.wrap (Int.tdiv v72 (256 : Int)))] : List Int)).length) <|
  .leaf (strOfNums (v62 ++ ([IntKind.u8.wrap (Int.tmod v72 (256 : Int)), IntKind.u8.wrap (IntKind.i64.wrap (Int.tdiv v72 (256 : Int)))] : List Int))))))))))))))

noncomputable def spec_l07Store_g (v49 : ByteArray) (v50 : Int) (v51 : Int) (v52 : List Nat) : Option (ByteArray) := (spec_l07Store_T v49 v50 v51 v52).run
def spec_l07Store_enc (v49 : ByteArray) (v50 : Int) (v51 : Int) (v52 : List Nat) (y : ByteArray) : Rs := (.str y, [])
theorem spec_l07Store_den (v49 : ByteArray) (v50 : Int) (v51 : Int) (v52 : List Nat) : (den TT (tabD spec_l07Store_tab) (tabM spec_l07Store_tab) (spec_l07Store_LO v49 v50 v51 v52) (codeOf Try.f35) ([.bptr (BR.root 0) [.str v49, .int .i64 v50, .int .i64 v51, .bslc (BR.root 1) (.f32 v52)]] ++ List.replicate (Try.f35.ntmps - ([.bptr (BR.root 0) [.str v49, .int .i64 v50, .int .i64 v51, .bslc (BR.root 1) (.f32 v52)]] : List DV).length) .undef) []).bind (retD TT Try.f35.results.toList 0) = (spec_l07Store_T v49 v50 v51 v52).bind fun y => .leaf (spec_l07Store_enc v49 v50 v51 v52 y) := by kernel_rfl
theorem spec_l07Store_fn (v49 : ByteArray) (v50 : Int) (v51 : Int) (v52 : List Nat) (F : Fr) (hm : F.ids.length = 0) (h0 : St F [] F.H0) (hA : DVs.Ok F [] [.bptr (BR.root 0) [.str v49, .int .i64 v50, .int .i64 v51, .bslc (BR.root 1) (.f32 v52)]]) {y : ByteArray} (hy : spec_l07Store_g v49 v50 v51 v52 = some y) : ∃ H', FnOk Try.prog 35 (DVs.av F [.bptr (BR.root 0) [.str v49, .int .i64 v50, .int .i64 v51, .bslc (BR.root 1) (.f32 v52)]]) F.H0 ((spec_l07Store_enc v49 v50 v51 v52 y).1.av F) H' ∧ St F (spec_l07Store_enc v49 v50 v51 v52 y).2 H' ∧ (spec_l07Store_enc v49 v50 v51 v52 y).1.Ok F (spec_l07Store_enc v49 v50 v51 v52 y).2 :=
  fn_fin tok spec_l07Store_hO mixed Try.func35 Try.call35 (by kernel_rfl) (LoopsOk_eq (l := [(0, bodyOf Try.f35 0)]) (by kernel_rfl) ⟨spec_l07Store_l0_ok v49 v50 v51 v52, trivial⟩) (spec_l07Store_den v49 v50 v51 v52) hy hm h0 hA
noncomputable def spec_l07Store_F : DFn := fun args L =>
  match args with
  | [a1] =>
    optT (cellsOf L 4 a1) fun cs0 =>
    (match cs0 with
    | [.str v49, .int .i64 v50, .int .i64 v51, a2] =>
    optT (rowF32 L a2) fun v52 =>
    .call (spec_l07Store_g v49 v50 v51 v52) fun y => .leaf (.str y, L)
    | _ => .fail)
  | _ => .fail
theorem spec_l07Store_Fok : COk Try.prog 35 spec_l07Store_F true := by
  intro F L H args r L' hs ha hr
  unfold spec_l07Store_F at hr
  split at hr
  · rename_i a1
    obtain ⟨cs0, hcp0, hr⟩ := optT_run hr
    split at hr
    · rename_i v49 v50 v51 a2
      obtain ⟨v52, hv52, hr⟩ := optT_run hr
      simp only [Tree.run] at hr
      obtain ⟨y, hy, hr⟩ := Option.bind_eq_some_iff.1 hr
      simp only [Tree.run, Option.some.injEq, Prod.mk.injEq] at hr
      obtain ⟨rfl, rfl⟩ := hr
      exact call_ok0 hs (fun k => (([a1.av F, a2.av F] : List AV)[k]?).getD .top) [a1] [.bptr (BR.root 0) [.str v49, .int .i64 v50, .int .i64 v51, .bslc (BR.root 1) (.f32 v52)]] (fun F' h0 hi hρ => ⟨by simp [DVs.av, DV.av, BR.av, hρ], spec_l07Store_fn v49 v50 v51 v52 F' (by rw [hi]; rfl) (st_nil hi) ⟨bptr_ok hi (by rw [h0]; simpa [DVs.av, DV.av, BR.av, hρ] using (cellsOf_ok hs (DVs.okAt ha 0 rfl) hcp0).1) ⟨trivial, trivial, trivial, bslc_ok hi (by rw [h0, hρ]; exact rowF32_ok hs (DVs.okAt (cellsOf_ok hs (DVs.okAt ha 0 rfl) hcp0).2 3 rfl) hv52), trivial⟩, trivial⟩ hy⟩) rfl
    · cases hr
  · cases hr
/-! spec.l07Load -/
noncomputable def spec_l07Load_l0_T (v3 : ByteArray) (v14 : Int) (s : Int × (List Nat)) : Tree ((Int × (List Nat)) ⊕ ((List Nat))) :=
  (.br (decide (IntKind.i64.wrap (s.1 + (4 : Int)) < v14)) (
   (.grd (inb s.1 v3.size) <|
   (.grd (inb (IntKind.i64.wrap (s.1 + (1 : Int))) v3.size) <|
   (.grd (inb (IntKind.i64.wrap (s.1 + (2 : Int))) v3.size) <|
   (.grd (inb (IntKind.i64.wrap (s.1 + (3 : Int))) v3.size) <|
   (.grd (fits (s.2 ++ ([(spec_l01From_v (IntKind.i64.wrap ((IntKind.i64.wrap ((IntKind.i64.wrap ((IntKind.i64.wrap (bt v3 s.1)) + (IntKind.i64.wrap ((256 : Int) * (IntKind.i64.wrap (bt v3 (IntKind.i64.wrap (s.1 + (1 : Int))))))))) + (IntKind.i64.wrap ((65536 : Int) * (IntKind.i64.wrap (bt v3 (IntKind.i64.wrap (s.1 + (2 : Int))))))))) + (IntKind.i64.wrap ((16777216 : Int) * (IntKind.i64.wrap (bt v3 (IntKind.i64.wrap (s.1 + (3 : Int))))))))))] : List Nat)).length) <|
   .leaf (.inl (IntKind.i64.wrap (s.1 + (4 : Int)), s.2 ++ ([(spec_l01From_v (IntKind.i64.wrap ((IntKind.i64.wrap ((IntKind.i64.wrap ((IntKind.i64.wrap (bt v3 s.1)) + (IntKind.i64.wrap ((256 : Int) * (IntKind.i64.wrap (bt v3 (IntKind.i64.wrap (s.1 + (1 : Int))))))))) + (IntKind.i64.wrap ((65536 : Int) * (IntKind.i64.wrap (bt v3 (IntKind.i64.wrap (s.1 + (2 : Int))))))))) + (IntKind.i64.wrap ((16777216 : Int) * (IntKind.i64.wrap (bt v3 (IntKind.i64.wrap (s.1 + (3 : Int))))))))))] : List Nat))))))))
  ) (
   .leaf (.inr s.2)
  ))

noncomputable def spec_l07Load_l0_g (v3 : ByteArray) (v14 : Int) (s0 : Int × (List Nat)) : Option ((List Nat)) := whileM (fun s => (spec_l07Load_l0_T v3 v14 s).run) s0
def spec_l07Load_l0_E (v3 : ByteArray) (v14 : Int) (s : Int × (List Nat)) : Sd := ([.str v3, .top, .ptr 0 (0 : Nat) 0 (4 : Nat), .top, .int .i64 v14, .top, .ptr 1 (0 : Nat) 0 (4 : Nat), .int .i64 s.1, .top, .top, .top, .top, .top, .top, .top, .top, .top, .top, .top, .top, .top, .top, .top, .top, .top, .top, .top, .top, .top, .top, .top, .top, .top, .top, .top, .top, .top, .top, .top, .top, .top, .top, .top, .top, .top, .top, .top, .top, .top, .top, .top, .top, .top, .top, .top, .top, .top, .top, .top, .top, .top, .top, .top, .top, .top, .top, .top, .top, .top, .top, .top, .top, .top, .top, .top, .top, .top, .top, .top, .top, .top, .top, .top, .top, .top, .top, .top, .top, .top], [.gen [.str ByteArray.empty, .int .i64 (0 : Int), .int .i64 (0 : Int), .nilslc] false 0, .gen [.str (ByteArray.extract v3 (Int.toNat (5 : Int)) (Int.toNat (IntKind.i64.wrap ((5 : Int) + (IntKind.i64.wrap (bt v3 (4 : Int))))))), .int .i64 ((spec_l02Blank_v (IntKind.i64.wrap (bt v3 (IntKind.i64.wrap ((5 : Int) + (IntKind.i64.wrap (bt v3 (4 : Int))))))) (IntKind.i64.wrap (bt v3 (IntKind.i64.wrap ((IntKind.i64.wrap ((5 : Int) + (IntKind.i64.wrap (bt v3 (4 : Int))))) + (1 : Int)))))).1), .int .i64 ((spec_l02Blank_v (IntKind.i64.wrap (bt v3 (IntKind.i64.wrap ((5 : Int) + (IntKind.i64.wrap (bt v3 (4 : Int))))))) (IntKind.i64.wrap (bt v3 (IntKind.i64.wrap ((IntKind.i64.wrap ((5 : Int) + (IntKind.i64.wrap (bt v3 (4 : Int))))) + (1 : Int)))))).2), .own 2 0 ((s.2).length)] false 0, .row (.f32 s.2) 0])
def spec_l07Load_l0_X (v3 : ByteArray) (v14 : Int) (x : (List Nat)) : Out := (.normal, [.str v3, .top, .ptr 0 (0 : Nat) 0 (4 : Nat), .top, .top, .top, .ptr 1 (0 : Nat) 0 (4 : Nat), .top, .top, .top, .top, .top, .top, .top, .top, .top, .top, .top, .top, .top, .top, .top, .top, .top, .top, .top, .top, .top, .top, .top, .top, .top, .top, .top, .top, .top, .top, .top, .top, .top, .top, .top, .top, .top, .top, .top, .top, .top, .top, .top, .top, .top, .top, .top, .top, .top, .top, .top, .top, .top, .top, .top, .top, .top, .top, .top, .top, .top, .top, .top, .top, .top, .top, .top, .top, .top, .top, .top, .top, .top, .top, .top, .top, .top, .top, .top, .top, .top, .top], [.gen [.str ByteArray.empty, .int .i64 (0 : Int), .int .i64 (0 : Int), .nilslc] false 0, .gen [.str (ByteArray.extract v3 (Int.toNat (5 : Int)) (Int.toNat (IntKind.i64.wrap ((5 : Int) + (IntKind.i64.wrap (bt v3 (4 : Int))))))), .int .i64 ((spec_l02Blank_v (IntKind.i64.wrap (bt v3 (IntKind.i64.wrap ((5 : Int) + (IntKind.i64.wrap (bt v3 (4 : Int))))))) (IntKind.i64.wrap (bt v3 (IntKind.i64.wrap ((IntKind.i64.wrap ((5 : Int) + (IntKind.i64.wrap (bt v3 (4 : Int))))) + (1 : Int)))))).1), .int .i64 ((spec_l02Blank_v (IntKind.i64.wrap (bt v3 (IntKind.i64.wrap ((5 : Int) + (IntKind.i64.wrap (bt v3 (4 : Int))))))) (IntKind.i64.wrap (bt v3 (IntKind.i64.wrap ((IntKind.i64.wrap ((5 : Int) + (IntKind.i64.wrap (bt v3 (4 : Int))))) + (1 : Int)))))).2), .own 2 0 ((x).length)] false 0, .row (.f32 x) 0])
def spec_l07Load_l0_kill : List Nat := [0, 1, 0, 1, 0, 1, 0, 0, 1, 1, 1, 1, 1, 1, 1, 1, 1, 1, 1, 1, 1, 1, 1, 1, 1, 1, 1, 1, 1, 1, 1, 1, 1, 1, 1, 1, 1, 1, 1, 1, 1, 1, 1, 1, 1, 1, 1, 1, 1, 1, 1, 1, 1, 1, 1, 1, 1, 1, 1, 1, 1, 1, 1, 1, 1, 1, 1, 1, 1, 1, 1, 1, 1, 1, 1, 1, 1, 1, 1, 1, 1, 1, 1, 1, 1, 1, 1, 1, 1]
def spec_l07Load_l0_nx : Exit → List Nat
  | .exit 0 => [0, 1, 0, 1, 1, 1, 0, 1, 1, 1, 1, 1, 1, 1, 1, 1, 1, 1, 1, 1, 1, 1, 1, 1, 1, 1, 1, 1, 1, 1, 1, 1, 1, 1, 1, 1, 1, 1, 1, 1, 1, 1, 1, 1, 1, 1, 1, 1, 1, 1, 1, 1, 1, 1, 1, 1, 1, 1, 1, 1, 1, 1, 1, 1, 1, 1, 1, 1, 1, 1, 1, 1, 1, 1, 1, 1, 1, 1, 1, 1, 1, 1, 1, 1, 1, 1, 1, 1, 1]
  | .ret => [1, 1, 0, 0, 1, 1, 1, 1, 1, 1, 1, 1, 1, 1, 1, 1, 1, 1, 1, 1, 1, 1, 1, 1, 1, 1, 1, 1, 1, 1, 1, 1, 1, 1, 1, 1, 1, 1, 1, 1, 1, 1, 1, 1, 1, 1, 1, 1, 1, 1, 1, 1, 1, 1, 1, 1, 1, 1, 1, 1, 1, 1, 1, 1, 1, 1, 1, 1, 1, 1, 1, 1, 1, 1, 1, 1, 1, 1, 1, 1, 1, 1, 1, 1, 1, 1, 1, 1, 1]
  | _ => []
noncomputable def spec_l07Load_LO (v3 : ByteArray) : LOr := fun id e L =>
  match id with
  | 0 => .need (normA 0 spec_l07Load_l0_kill e L = some (spec_l07Load_l0_E v3 (gI (vAt e 4)) ((gI (vAt e 7)), (gRF L (cAt L (vAt e 6) 3))))) (.call (spec_l07Load_l0_g v3 (gI (vAt e 4)) ((gI (vAt e 7)), (gRF L (cAt L (vAt e 6) 3)))) fun x => .leaf (spec_l07Load_l0_X v3 (gI (vAt e 4)) x))
  | _ => .fail
noncomputable def spec_l07Load_tab : List (FuncId × DFn × Bool) := [(49, spec_l07Long_F, true), (69, spec_l02Blank_F, true), (70, spec_l01From_F, true), (34, spec_l07Sheet_F, true), (35, spec_l07Store_F, true)]
theorem spec_l07Load_hO : OrcOk Try.prog (tabD spec_l07Load_tab) (tabM spec_l07Load_tab) := tabD_cons spec_l07Long_Fok (tabD_cons spec_l02Blank_Fok (tabD_cons spec_l01From_Fok (tabD_cons spec_l07Sheet_Fok (tabD_cons spec_l07Store_Fok (tabD_nil _)))))
theorem spec_l07Load_l0_be (v3 : ByteArray) (v14 : Int) (s : Int × (List Nat)) : bodyT TT (tabD spec_l07Load_tab) (tabM spec_l07Load_tab) (spec_l07Load_LO v3) 0 spec_l07Load_l0_kill spec_l07Load_l0_nx (bodyOf Try.f39 0) 0 (spec_l07Load_l0_E v3 v14 s) = (spec_l07Load_l0_T v3 v14 s).bind fun y => .leaf (outS (spec_l07Load_l0_E v3 v14) (spec_l07Load_l0_X v3 v14) y) := by kernel_rfl
theorem spec_l07Load_l0_ok (v3 : ByteArray) : LSound Try.prog 0 (spec_l07Load_LO v3) 0 (bodyOf Try.f39 0) := by
  intro e L out h
  exact lo_ok (E := spec_l07Load_l0_E v3 (gI (vAt e 4))) (gT := spec_l07Load_l0_T v3 (gI (vAt e 4))) (X := spec_l07Load_l0_X v3 (gI (vAt e 4))) (s0 := ((gI (vAt e 7)), (gRF L (cAt L (vAt e 6) 3)))) tok spec_l07Load_hO mixed (LoopsOk_eq (l := []) (by kernel_rfl) trivial) (spec_l07Load_l0_be v3 (gI (vAt e 4))) rfl (by intro x; rfl) h
noncomputable def spec_l07Load_T (v3 : ByteArray) : Tree ((ByteArray) ⊕ (ByteArray × Int × Int × (List Nat))) :=
  (.call (spec_l07Long_g v3) fun v5 =>
  (.br (decide (v5 = (0 : Int))) (
   .leaf (.inl ByteArray.empty)
  ) (
   (.br (!decide (v5 = ((v3.size : Nat) : Int))) (
    .leaf (.inl ByteArray.empty)
   ) (
    (.grd (inb (4 : Int) v3.size) <|
    (.grd (sok (5 : Int) (IntKind.i64.wrap ((5 : Int) + (IntKind.i64.wrap (bt v3 (4 : Int))))) v3.size) <|
    (.grd (inb (IntKind.i64.wrap ((5 : Int) + (IntKind.i64.wrap (bt v3 (4 : Int))))) v3.size) <|
    (.grd (inb (IntKind.i64.wrap ((IntKind.i64.wrap ((5 : Int) + (IntKind.i64.wrap (bt v3 (4 : Int))))) + (1 : Int))) v3.size) <|
    (.need (some (spec_l07Load_l0_E v3 v5 (IntKind.i64.wrap ((IntKind.i64.wrap ((5 : Int) + (IntKind.i64.wrap (bt v3 (4 : Int))))) + (2 : Int)), ([] : List Nat))) = some (spec_l07Load_l0_E v3 v5 (IntKind.i64.wrap ((IntKind.i64.wrap ((5 : Int) + (IntKind.i64.wrap (bt v3 (4 : Int))))) + (2 : Int)), ([] : List Nat)))) <|
    (.call (spec_l07Load_l0_g v3 v5 (IntKind.i64.wrap ((IntKind.i64.wrap ((5 : Int) + (IntKind.i64.wrap (bt v3 (4 : Int))))) + (2 : Int)), ([] : List Nat))) fun v17 =>
    (.call (spec_l07Sheet_g (ByteArray.extract v3 (Int.toNat (5 : Int)) (Int.toNat (IntKind.i64.wrap ((5 : Int) + (IntKind.i64.wrap (bt v3 (4 : Int))))))) ((spec_l02Blank_v (IntKind.i64.wrap (bt v3 (IntKind.i64.wrap ((5 : Int) + (IntKind.i64.wrap (bt v3 (4 : Int))))))) (IntKind.i64.wrap (bt v3 (IntKind.i64.wrap ((IntKind.i64.wrap ((5 : Int) + (IntKind.i64.wrap (bt v3 (4 : Int))))) + (1 : Int)))))).1) ((spec_l02Blank_v (IntKind.i64.wrap (bt v3 (IntKind.i64.wrap ((5 : Int) + (IntKind.i64.wrap (bt v3 (4 : Int))))))) (IntKind.i64.wrap (bt v3 (IntKind.i64.wrap ((IntKind.i64.wrap ((5 : Int) + (IntKind.i64.wrap (bt v3 (4 : Int))))) + (1 : Int)))))).2) v17) fun v48 =>
    (.br (!v48) (
     .leaf (.inl ByteArray.empty)
    ) (
     (.call (spec_l07Store_g (ByteArray.extract v3 (Int.toNat (5 : Int)) (Int.toNat (IntKind.i64.wrap ((5 : Int) + (IntKind.i64.wrap (bt v3 (4 : Int))))))) ((spec_l02Blank_v (IntKind.i64.wrap (bt v3 (IntKind.i64.wrap ((5 : Int) + (IntKind.i64.wrap (bt v3 (4 : Int))))))) (IntKind.i64.wrap (bt v3 (IntKind.i64.wrap ((IntKind.i64.wrap ((5 : Int) + (IntKind.i64.wrap (bt v3 (4 : Int))))) + (1 : Int)))))).1) ((spec_l02Blank_v (IntKind.i64.wrap (bt v3 (IntKind.i64.wrap ((5 : Int) + (IntKind.i64.wrap (bt v3 (4 : Int))))))) (IntKind.i64.wrap (bt v3 (IntKind.i64.wrap ((IntKind.i64.wrap ((5 : Int) + (IntKind.i64.wrap (bt v3 (4 : Int))))) + (1 : Int)))))).2) v17) fun v73 =>
     (.br (!(v73.toList == v3.toList)) (
      .leaf (.inl ByteArray.empty)
     ) (
      .leaf (.inr (ByteArray.extract v3 (Int.toNat (5 : Int)) (Int.toNat (IntKind.i64.wrap ((5 : Int) + (IntKind.i64.wrap (bt v3 (4 : Int)))))), (spec_l02Blank_v (IntKind.i64.wrap (bt v3 (IntKind.i64.wrap ((5 : Int) + (IntKind.i64.wrap (bt v3 (4 : Int))))))) (IntKind.i64.wrap (bt v3 (IntKind.i64.wrap ((IntKind.i64.wrap ((5 : Int) + (IntKind.i64.wrap (bt v3 (4 : Int))))) + (1 : Int)))))).1, (spec_l02Blank_v (IntKind.i64.wrap (bt v3 (IntKind.i64.wrap ((5 : Int) + (IntKind.i64.wrap (bt v3 (4 : Int))))))) (IntKind.i64.wrap (bt v3 (IntKind.i64.wrap ((IntKind.i64.wrap ((5 : Int) + (IntKind.i64.wrap (bt v3 (4 : Int))))) + (1 : Int)))))).2, v17))
     )))
    )))))))))
   ))
  )))

noncomputable def spec_l07Load_g (v3 : ByteArray) : Option ((ByteArray) ⊕ (ByteArray × Int × Int × (List Nat))) := (spec_l07Load_T v3).run
def spec_l07Load_enc (v3 : ByteArray) (y : (ByteArray) ⊕ (ByteArray × Int × Int × (List Nat))) : Rs := (match y with | .inl y => (.tup [.agg [.str y, .int .i64 (0 : Int), .int .i64 (0 : Int), .nilslc], .lit false], []) | .inr y => (.tup [.agg [.str y.1, .int .i64 y.2.1, .int .i64 y.2.2.1, .own 0 0 ((y.2.2.2).length)], .lit true], [.row (.f32 y.2.2.2) 0]))
theorem spec_l07Load_den (v3 : ByteArray) : (den TT (tabD spec_l07Load_tab) (tabM spec_l07Load_tab) (spec_l07Load_LO v3) (codeOf Try.f39) ([.str v3] ++ List.replicate (Try.f39.ntmps - ([.str v3] : List DV).length) .undef) []).bind (retD TT Try.f39.results.toList 0) = (spec_l07Load_T v3).bind fun y => .leaf (spec_l07Load_enc v3 y) := by kernel_rfl
theorem spec_l07Load_fn (v3 : ByteArray) (F : Fr) (hm : F.ids.length = 0) (h0 : St F [] F.H0) (hA : DVs.Ok F [] [.str v3]) {y : (ByteArray) ⊕ (ByteArray × Int × Int × (List Nat))} (hy : spec_l07Load_g v3 = some y) : ∃ H', FnOk Try.prog 39 (DVs.av F [.str v3]) F.H0 ((spec_l07Load_enc v3 y).1.av F) H' ∧ St F (spec_l07Load_enc v3 y).2 H' ∧ (spec_l07Load_enc v3 y).1.Ok F (spec_l07Load_enc v3 y).2 :=
  fn_fin tok spec_l07Load_hO mixed Try.func39 Try.call39 (by kernel_rfl) (LoopsOk_eq (l := [(0, bodyOf Try.f39 0)]) (by kernel_rfl) ⟨spec_l07Load_l0_ok v3, trivial⟩) (spec_l07Load_den v3) hy hm h0 hA
noncomputable def spec_l07Load_F : DFn := fun args L =>
  match args with
  | [.str v3] =>
    .call (spec_l07Load_g v3) fun y => .sum y (fun y0 => .leaf (.tup [.agg [.str y0, .int .i64 (0 : Int), .int .i64 (0 : Int), .nilslc], .lit false], L)) (fun z0 => .leaf (.tup [.agg [.str z0.1, .int .i64 z0.2.1, .int .i64 z0.2.2.1, .own (L.length + 0) 0 ((z0.2.2.2).length)], .lit true], L ++ [.row (.f32 z0.2.2.2) 0]))
  | _ => .fail
theorem spec_l07Load_Fok : COk Try.prog 39 spec_l07Load_F true := by
  intro F L H args r L' hs ha hr
  unfold spec_l07Load_F at hr
  split at hr
  · rename_i v3
    simp only [Tree.run] at hr
    obtain ⟨y, hy, hr⟩ := Option.bind_eq_some_iff.1 hr
    cases y with
    | inl y =>
      simp only [Tree.run, Option.some.injEq, Prod.mk.injEq] at hr
      obtain ⟨rfl, rfl⟩ := hr
      exact call_ok0 hs (fun k => (([] : List AV)[k]?).getD .top) [.str v3] [.str v3] (fun F' h0 hi hρ => ⟨by simp [DVs.av, DV.av, BR.av, hρ], spec_l07Load_fn v3 F' (by rw [hi]; rfl) (st_nil hi) ⟨trivial, trivial⟩ hy⟩) rfl
    | inr y =>
      simp only [Tree.run, Option.some.injEq, Prod.mk.injEq] at hr
      obtain ⟨rfl, rfl⟩ := hr
      exact call_ok1 hs (fun k => (([] : List AV)[k]?).getD .top) [.str v3] [.str v3] (fun F' h0 hi hρ => ⟨by simp [DVs.av, DV.av, BR.av, hρ], spec_l07Load_fn v3 F' (by rw [hi]; rfl) (st_nil hi) ⟨trivial, trivial⟩ hy⟩) rfl rfl
  · cases hr
/-! spec.LoadSheet -/
noncomputable def spec_LoadSheet_LO (v2 : ByteArray) : LOr := fun id e L =>
  match id with
  | _ => .fail
noncomputable def spec_LoadSheet_tab : List (FuncId × DFn × Bool) := [(39, spec_l07Load_F, true)]
theorem spec_LoadSheet_hO : OrcOk Try.prog (tabD spec_LoadSheet_tab) (tabM spec_LoadSheet_tab) := tabD_cons spec_l07Load_Fok (tabD_nil _)
noncomputable def spec_LoadSheet_T (v2 : ByteArray) : Tree ((ByteArray) ⊕ (ByteArray × Int × Int × (List Nat))) :=
  (.call (spec_l07Load_g v2) fun v74 =>
  (.sum v74 (fun v75 =>
   .leaf (.inl v75)
  ) (fun v76 =>
   .leaf (.inr (v76.1, v76.2.1, v76.2.2.1, v76.2.2.2))
  )))

noncomputable def spec_LoadSheet_g (v2 : ByteArray) : Option ((ByteArray) ⊕ (ByteArray × Int × Int × (List Nat))) := (spec_LoadSheet_T v2).run
def spec_LoadSheet_enc (v2 : ByteArray) (y : (ByteArray) ⊕ (ByteArray × Int × Int × (List Nat))) : Rs := (match y with | .inl y => (.tup [.agg [.str y, .int .i64 (0 : Int), .int .i64 (0 : Int), .nilslc], .lit false], []) | .inr y => (.tup [.agg [.str y.1, .int .i64 y.2.1, .int .i64 y.2.2.1, .own 0 0 ((y.2.2.2).length)], .lit true], [.row (.f32 y.2.2.2) 0]))
theorem spec_LoadSheet_den (v2 : ByteArray) : (den TT (tabD spec_LoadSheet_tab) (tabM spec_LoadSheet_tab) (spec_LoadSheet_LO v2) (codeOf Try.f14) ([.str v2] ++ List.replicate (Try.f14.ntmps - ([.str v2] : List DV).length) .undef) []).bind (retD TT Try.f14.results.toList 0) = (spec_LoadSheet_T v2).bind fun y => .leaf (spec_LoadSheet_enc v2 y) := by kernel_rfl
theorem spec_LoadSheet_fn (v2 : ByteArray) (F : Fr) (hm : F.ids.length = 0) (h0 : St F [] F.H0) (hA : DVs.Ok F [] [.str v2]) {y : (ByteArray) ⊕ (ByteArray × Int × Int × (List Nat))} (hy : spec_LoadSheet_g v2 = some y) : ∃ H', FnOk Try.prog 14 (DVs.av F [.str v2]) F.H0 ((spec_LoadSheet_enc v2 y).1.av F) H' ∧ St F (spec_LoadSheet_enc v2 y).2 H' ∧ (spec_LoadSheet_enc v2 y).1.Ok F (spec_LoadSheet_enc v2 y).2 :=
  fn_fin tok spec_LoadSheet_hO mixed Try.func14 Try.call14 (by kernel_rfl) (LoopsOk_eq (l := []) (by kernel_rfl) trivial) (spec_LoadSheet_den v2) hy hm h0 hA
noncomputable def spec_LoadSheet_F : DFn := fun args L =>
  match args with
  | [.str v2] =>
    .call (spec_LoadSheet_g v2) fun y => .sum y (fun y0 => .leaf (.tup [.agg [.str y0, .int .i64 (0 : Int), .int .i64 (0 : Int), .nilslc], .lit false], L)) (fun z0 => .leaf (.tup [.agg [.str z0.1, .int .i64 z0.2.1, .int .i64 z0.2.2.1, .own (L.length + 0) 0 ((z0.2.2.2).length)], .lit true], L ++ [.row (.f32 z0.2.2.2) 0]))
  | _ => .fail
theorem spec_LoadSheet_Fok : COk Try.prog 14 spec_LoadSheet_F true := by
  intro F L H args r L' hs ha hr
  unfold spec_LoadSheet_F at hr
  split at hr
  · rename_i v2
    simp only [Tree.run] at hr
    obtain ⟨y, hy, hr⟩ := Option.bind_eq_some_iff.1 hr
    cases y with
    | inl y =>
      simp only [Tree.run, Option.some.injEq, Prod.mk.injEq] at hr
      obtain ⟨rfl, rfl⟩ := hr
      exact call_ok0 hs (fun k => (([] : List AV)[k]?).getD .top) [.str v2] [.str v2] (fun F' h0 hi hρ => ⟨by simp [DVs.av, DV.av, BR.av, hρ], spec_LoadSheet_fn v2 F' (by rw [hi]; rfl) (st_nil hi) ⟨trivial, trivial⟩ hy⟩) rfl
    | inr y =>
      simp only [Tree.run, Option.some.injEq, Prod.mk.injEq] at hr
      obtain ⟨rfl, rfl⟩ := hr
      exact call_ok1 hs (fun k => (([] : List AV)[k]?).getD .top) [.str v2] [.str v2] (fun F' h0 hi hρ => ⟨by simp [DVs.av, DV.av, BR.av, hρ], spec_LoadSheet_fn v2 F' (by rw [hi]; rfl) (st_nil hi) ⟨trivial, trivial⟩ hy⟩) rfl rfl
  · cases hr
/-! impl.numberOf -/
noncomputable def impl_numberOf_l0_T (v83 : ByteArray) (s : Int × Int) : Tree ((Int × Int) ⊕ (Int)) :=
  (.br (decide ((0 : Int) ≤ s.2)) (
   (.grd (decide (0 ≤ (8 : Int))) <|
   (.grd (inb s.2 v83.size) <|
   .leaf (.inl (ior .i64 (ishl .i64 s.1 (8 : Int)) (IntKind.i64.wrap (bt v83 s.2)), IntKind.i64.wrap (s.2 - (1 : Int))))))
  ) (
   .leaf (.inr s.1)
  ))

noncomputable def impl_numberOf_l0_g (v83 : ByteArray) (s0 : Int × Int) : Option (Int) := whileM (fun s => (impl_numberOf_l0_T v83 s).run) s0
def impl_numberOf_l0_E (v83 : ByteArray) (s : Int × Int) : Sd := ([.str v83, .top, .top, .int .i64 s.1, .int .i64 s.2, .top, .top, .top, .top, .top, .top, .top, .top, .top, .top, .top, .top, .top, .top, .top], [])
def impl_numberOf_l0_X (v83 : ByteArray) (x : Int) : Out := (.normal, [.top, .top, .top, .int .i64 x, .top, .top, .top, .top, .top, .top, .top, .top, .top, .top, .top, .top, .top, .top, .top, .top], [])
def impl_numberOf_l0_kill : List Nat := [0, 1, 1, 0, 0, 1, 1, 1, 1, 1, 1, 1, 1, 1, 1, 1, 1, 1, 1, 1]
def impl_numberOf_l0_nx : Exit → List Nat
  | .exit 0 => [1, 1, 1, 0, 1, 1, 1, 1, 1, 1, 1, 1, 1, 1, 1, 1, 1, 1, 1, 1]
  | .ret => [1, 1, 0, 1, 1, 1, 1, 1, 1, 1, 1, 1, 1, 1, 1, 1, 1, 1, 1, 1]
  | _ => []
noncomputable def impl_numberOf_LO (v83 : ByteArray) : LOr := fun id e L =>
  match id with
  | 0 => .need (normA 0 impl_numberOf_l0_kill e L = some (impl_numberOf_l0_E v83 ((gI (vAt e 3)), (gI (vAt e 4))))) (.call (impl_numberOf_l0_g v83 ((gI (vAt e 3)), (gI (vAt e 4)))) fun x => .leaf (impl_numberOf_l0_X v83 x))
  | _ => .fail
noncomputable def impl_numberOf_tab : List (FuncId × DFn × Bool) := []
theorem impl_numberOf_hO : OrcOk Try.prog (tabD impl_numberOf_tab) (tabM impl_numberOf_tab) := tabD_nil _
theorem impl_numberOf_l0_be (v83 : ByteArray) (s : Int × Int) : bodyT TT (tabD impl_numberOf_tab) (tabM impl_numberOf_tab) (impl_numberOf_LO v83) 0 impl_numberOf_l0_kill impl_numberOf_l0_nx (bodyOf Try.f72 0) 0 (impl_numberOf_l0_E v83 s) = (impl_numberOf_l0_T v83 s).bind fun y => .leaf (outS (impl_numberOf_l0_E v83) (impl_numberOf_l0_X v83) y) := by kernel_rfl
theorem impl_numberOf_l0_ok (v83 : ByteArray) : LSound Try.prog 0 (impl_numberOf_LO v83) 0 (bodyOf Try.f72 0) := by
  intro e L out h
  exact lo_ok (E := impl_numberOf_l0_E v83) (gT := impl_numberOf_l0_T v83) (X := impl_numberOf_l0_X v83) (s0 := ((gI (vAt e 3)), (gI (vAt e 4)))) tok impl_numberOf_hO mixed (LoopsOk_eq (l := []) (by kernel_rfl) trivial) (impl_numberOf_l0_be v83) rfl (by intro x; rfl) h
noncomputable def impl_numberOf_T (v83 : ByteArray) : Tree (Int) :=
  (.need (some (impl_numberOf_l0_E v83 ((0 : Int), IntKind.i64.wrap (((v83.size : Nat) : Int) - (1 : Int)))) = some (impl_numberOf_l0_E v83 ((0 : Int), IntKind.i64.wrap (((v83.size : Nat) : Int) - (1 : Int))))) <|
  (.call (impl_numberOf_l0_g v83 ((0 : Int), IntKind.i64.wrap (((v83.size : Nat) : Int) - (1 : Int)))) fun v90 =>
  .leaf v90))

noncomputable def impl_numberOf_g (v83 : ByteArray) : Option (Int) := (impl_numberOf_T v83).run
def impl_numberOf_enc (v83 : ByteArray) (y : Int) : Rs := (.int .i64 y, [])
theorem impl_numberOf_den (v83 : ByteArray) : (den TT (tabD impl_numberOf_tab) (tabM impl_numberOf_tab) (impl_numberOf_LO v83) (codeOf Try.f72) ([.str v83] ++ List.replicate (Try.f72.ntmps - ([.str v83] : List DV).length) .undef) []).bind (retD TT Try.f72.results.toList 0) = (impl_numberOf_T v83).bind fun y => .leaf (impl_numberOf_enc v83 y) := by kernel_rfl
theorem impl_numberOf_fn (v83 : ByteArray) (F : Fr) (hm : F.ids.length = 0) (h0 : St F [] F.H0) (hA : DVs.Ok F [] [.str v83]) {y : Int} (hy : impl_numberOf_g v83 = some y) : ∃ H', FnOk Try.prog 72 (DVs.av F [.str v83]) F.H0 ((impl_numberOf_enc v83 y).1.av F) H' ∧ St F (impl_numberOf_enc v83 y).2 H' ∧ (impl_numberOf_enc v83 y).1.Ok F (impl_numberOf_enc v83 y).2 :=
  fn_fin tok impl_numberOf_hO mixed Try.func72 Try.call72 (by kernel_rfl) (LoopsOk_eq (l := [(0, bodyOf Try.f72 0)]) (by kernel_rfl) ⟨impl_numberOf_l0_ok v83, trivial⟩) (impl_numberOf_den v83) hy hm h0 hA
noncomputable def impl_numberOf_F : DFn := fun args L =>
  match args with
  | [.str v83] =>
    .call (impl_numberOf_g v83) fun y => .leaf (.int .i64 y, L)
  | _ => .fail
theorem impl_numberOf_Fok : COk Try.prog 72 impl_numberOf_F true := by
  intro F L H args r L' hs ha hr
  unfold impl_numberOf_F at hr
  split at hr
  · rename_i v83
    simp only [Tree.run] at hr
    obtain ⟨y, hy, hr⟩ := Option.bind_eq_some_iff.1 hr
    simp only [Tree.run, Option.some.injEq, Prod.mk.injEq] at hr
    obtain ⟨rfl, rfl⟩ := hr
    exact call_ok0 hs (fun k => (([] : List AV)[k]?).getD .top) [.str v83] [.str v83] (fun F' h0 hi hρ => ⟨by simp [DVs.av, DV.av, BR.av, hρ], impl_numberOf_fn v83 F' (by rw [hi]; rfl) (st_nil hi) ⟨trivial, trivial⟩ hy⟩) rfl
  · cases hr
/-! impl.inRange -/
noncomputable def impl_inRange_LO (v117 : Int) (v118 : Int) (v119 : Int) : LOr := fun id e L =>
  match id with
  | _ => .fail
noncomputable def impl_inRange_tab : List (FuncId × DFn × Bool) := []
theorem impl_inRange_hO : OrcOk Try.prog (tabD impl_inRange_tab) (tabM impl_inRange_tab) := tabD_nil _
noncomputable def impl_inRange_T (v117 : Int) (v118 : Int) (v119 : Int) : Tree (Bool) :=
  (.br (decide (v118 ≤ v117)) (
   .leaf (decide (v117 ≤ v119))
  ) (
   .leaf false
  ))

noncomputable def impl_inRange_g (v117 : Int) (v118 : Int) (v119 : Int) : Option (Bool) := (impl_inRange_T v117 v118 v119).run
def impl_inRange_enc (v117 : Int) (v118 : Int) (v119 : Int) (y : Bool) : Rs := (.bool y, [])
theorem impl_inRange_den (v117 : Int) (v118 : Int) (v119 : Int) : (den TT (tabD impl_inRange_tab) (tabM impl_inRange_tab) (impl_inRange_LO v117 v118 v119) (codeOf Try.f78) ([.int .i64 v117, .int .i64 v118, .int .i64 v119] ++ List.replicate (Try.f78.ntmps - ([.int .i64 v117, .int .i64 v118, .int .i64 v119] : List DV).length) .undef) []).bind (retD TT Try.f78.results.toList 0) = (impl_inRange_T v117 v118 v119).bind fun y => .leaf (impl_inRange_enc v117 v118 v119 y) := by kernel_rfl
theorem impl_inRange_fn (v117 : Int) (v118 : Int) (v119 : Int) (F : Fr) (hm : F.ids.length = 0) (h0 : St F [] F.H0) (hA : DVs.Ok F [] [.int .i64 v117, .int .i64 v118, .int .i64 v119]) {y : Bool} (hy : impl_inRange_g v117 v118 v119 = some y) : ∃ H', FnOk Try.prog 78 (DVs.av F [.int .i64 v117, .int .i64 v118, .int .i64 v119]) F.H0 ((impl_inRange_enc v117 v118 v119 y).1.av F) H' ∧ St F (impl_inRange_enc v117 v118 v119 y).2 H' ∧ (impl_inRange_enc v117 v118 v119 y).1.Ok F (impl_inRange_enc v117 v118 v119 y).2 :=
  fn_fin tok impl_inRange_hO mixed Try.func78 Try.call78 (by kernel_rfl) (LoopsOk_eq (l := []) (by kernel_rfl) trivial) (impl_inRange_den v117 v118 v119) hy hm h0 hA
def impl_inRange_v (v117 : Int) (v118 : Int) (v119 : Int) : Bool :=
  if (decide (v118 ≤ v117)) = true then (
   decide (v117 ≤ v119)
  ) else (
   false
  )
theorem impl_inRange_tot (v117 : Int) (v118 : Int) (v119 : Int) : impl_inRange_g v117 v118 v119 = some (impl_inRange_v v117 v118 v119) := by
  unfold impl_inRange_g impl_inRange_T impl_inRange_v
  simp only [Tree.run]
  repeat' (first | rfl | split)
noncomputable def impl_inRange_F : DFn := fun args L =>
  match args with
  | [.int .i64 v117, .int .i64 v118, .int .i64 v119] =>
    .leaf (.bool (impl_inRange_v v117 v118 v119), L)
  | _ => .fail
theorem impl_inRange_Fok : COk Try.prog 78 impl_inRange_F true := by
  intro F L H args r L' hs ha hr
  unfold impl_inRange_F at hr
  split at hr
  · rename_i v117 v118 v119
    have hy := impl_inRange_tot v117 v118 v119
    generalize impl_inRange_v v117 v118 v119 = y at hy hr
    simp only [Tree.run, Option.some.injEq, Prod.mk.injEq] at hr
    obtain ⟨rfl, rfl⟩ := hr
    exact call_ok0 hs (fun k => (([] : List AV)[k]?).getD .top) [.int .i64 v117, .int .i64 v118, .int .i64 v119] [.int .i64 v117, .int .i64 v118, .int .i64 v119] (fun F' h0 hi hρ => ⟨by simp [DVs.av, DV.av, BR.av, hρ], impl_inRange_fn v117 v118 v119 F' (by rw [hi]; rfl) (st_nil hi) ⟨trivial, trivial, trivial, trivial⟩ hy⟩) rfl
  · cases hr
/-! impl.IsName -/
noncomputable def impl_IsName_l0_T (v110 : ByteArray) (s : Int) : Tree ((Int) ⊕ ((Unit) ⊕ (Unit))) :=
  (.br (decide (s < ((v110.size : Nat) : Int))) (
   (.grd (inb s v110.size) <|
   (.br (decide (bt v110 s < (97 : Int))) (
    .leaf (.inr (.inl ()))
   ) (
    (.grd (inb s v110.size) <|
    (.br (decide ((122 : Int) < bt v110 s)) (
     .leaf (.inr (.inl ()))
    ) (
     .leaf (.inl (IntKind.i64.wrap (s + (1 : Int))))
    )))
   )))
  ) (
   .leaf (.inr (.inr ()))
  ))

noncomputable def impl_IsName_l0_g (v110 : ByteArray) (s0 : Int) : Option ((Unit) ⊕ (Unit)) := whileM (fun s => (impl_IsName_l0_T v110 s).run) s0
def impl_IsName_l0_E (v110 : ByteArray) (s : Int) : Sd := ([.str v110, .top, .top, .top, .top, .int .i64 ((v110.size : Nat) : Int), .int .i64 s, .top, .top, .top, .top, .top, .top, .top, .top, .top, .top, .top, .top, .top, .top, .top, .top], [])
def impl_IsName_l0_X (v110 : ByteArray) (x : (Unit) ⊕ (Unit)) : Out := (match x with | .inl x => (.ret, [.top, .top, .lit false, .top, .top, .top, .top, .top, .top, .top, .top, .top, .top, .top, .top, .top, .top, .top, .top, .top, .top, .top, .top], []) | .inr x => (.normal, [.str v110, .top, .top, .top, .top, .top, .top, .top, .top, .top, .top, .top, .top, .top, .top, .top, .top, .top, .top, .top, .top, .top, .top], []))
def impl_IsName_l0_kill : List Nat := [0, 1, 1, 1, 1, 0, 0, 1, 1, 1, 1, 1, 1, 1, 1, 1, 1, 1, 1, 1, 1, 1, 1]
def impl_IsName_l0_nx : Exit → List Nat
  | .exit 0 => [0, 1, 1, 1, 1, 1, 1, 1, 1, 1, 1, 1, 1, 1, 1, 1, 1, 1, 1, 1, 1, 1, 1]
  | .ret => [1, 1, 0, 1, 1, 1, 1, 1, 1, 1, 1, 1, 1, 1, 1, 1, 1, 1, 1, 1, 1, 1, 1]
  | _ => []
noncomputable def impl_IsName_LO (v110 : ByteArray) : LOr := fun id e L =>
  match id with
  | 0 => .need (normA 0 impl_IsName_l0_kill e L = some (impl_IsName_l0_E v110 (gI (vAt e 6)))) (.call (impl_IsName_l0_g v110 (gI (vAt e 6))) fun x => .sum x (fun b0 => .leaf (impl_IsName_l0_X v110 (.inl b0))) (fun c0 => .leaf (impl_IsName_l0_X v110 (.inr c0))))
  | _ => .fail
noncomputable def impl_IsName_tab : List (FuncId × DFn × Bool) := [(78, impl_inRange_F, true)]
theorem impl_IsName_hO : OrcOk Try.prog (tabD impl_IsName_tab) (tabM impl_IsName_tab) := tabD_cons impl_inRange_Fok (tabD_nil _)
theorem impl_IsName_l0_be (v110 : ByteArray) (s : Int) : bodyT TT (tabD impl_IsName_tab) (tabM impl_IsName_tab) (impl_IsName_LO v110) 0 impl_IsName_l0_kill impl_IsName_l0_nx (bodyOf Try.f57 0) 0 (impl_IsName_l0_E v110 s) = (impl_IsName_l0_T v110 s).bind fun y => .leaf (outS (impl_IsName_l0_E v110) (impl_IsName_l0_X v110) y) := by kernel_rfl
theorem impl_IsName_l0_ok (v110 : ByteArray) : LSound Try.prog 0 (impl_IsName_LO v110) 0 (bodyOf Try.f57 0) := by
  intro e L out h
  exact lo_ok (E := impl_IsName_l0_E v110) (gT := impl_IsName_l0_T v110) (X := impl_IsName_l0_X v110) (s0 := (gI (vAt e 6))) tok impl_IsName_hO mixed (LoopsOk_eq (l := []) (by kernel_rfl) trivial) (impl_IsName_l0_be v110) rfl (by intro x; (cases x with | inl b => rfl | inr x => exact rfl)) h
noncomputable def impl_IsName_T (v110 : ByteArray) : Tree (Bool) :=
  (.need (some (impl_IsName_l0_E v110 (0 : Int)) = some (impl_IsName_l0_E v110 (0 : Int))) <|
  (.call (impl_IsName_l0_g v110 (0 : Int)) fun v114 =>
  (.sum v114 (fun v115 =>
   .leaf false
  ) (fun v116 =>
   .leaf (impl_inRange_v ((v110.size : Nat) : Int) (1 : Int) (8 : Int))
  ))))

noncomputable def impl_IsName_g (v110 : ByteArray) : Option (Bool) := (impl_IsName_T v110).run
def impl_IsName_enc (v110 : ByteArray) (y : Bool) : Rs := (.bool y, [])
theorem impl_IsName_den (v110 : ByteArray) : (den TT (tabD impl_IsName_tab) (tabM impl_IsName_tab) (impl_IsName_LO v110) (codeOf Try.f57) ([.str v110] ++ List.replicate (Try.f57.ntmps - ([.str v110] : List DV).length) .undef) []).bind (retD TT Try.f57.results.toList 0) = (impl_IsName_T v110).bind fun y => .leaf (impl_IsName_enc v110 y) := by kernel_rfl
theorem impl_IsName_fn (v110 : ByteArray) (F : Fr) (hm : F.ids.length = 0) (h0 : St F [] F.H0) (hA : DVs.Ok F [] [.str v110]) {y : Bool} (hy : impl_IsName_g v110 = some y) : ∃ H', FnOk Try.prog 57 (DVs.av F [.str v110]) F.H0 ((impl_IsName_enc v110 y).1.av F) H' ∧ St F (impl_IsName_enc v110 y).2 H' ∧ (impl_IsName_enc v110 y).1.Ok F (impl_IsName_enc v110 y).2 :=
  fn_fin tok impl_IsName_hO mixed Try.func57 Try.call57 (by kernel_rfl) (LoopsOk_eq (l := [(0, bodyOf Try.f57 0)]) (by kernel_rfl) ⟨impl_IsName_l0_ok v110, trivial⟩) (impl_IsName_den v110) hy hm h0 hA
noncomputable def impl_IsName_F : DFn := fun args L =>
  match args with
  | [.str v110] =>
    .call (impl_IsName_g v110) fun y => .leaf (.bool y, L)
  | _ => .fail
theorem impl_IsName_Fok : COk Try.prog 57 impl_IsName_F true := by
  intro F L H args r L' hs ha hr
  unfold impl_IsName_F at hr
  split at hr
  · rename_i v110
    simp only [Tree.run] at hr
    obtain ⟨y, hy, hr⟩ := Option.bind_eq_some_iff.1 hr
    simp only [Tree.run, Option.some.injEq, Prod.mk.injEq] at hr
    obtain ⟨rfl, rfl⟩ := hr
    exact call_ok0 hs (fun k => (([] : List AV)[k]?).getD .top) [.str v110] [.str v110] (fun F' h0 hi hρ => ⟨by simp [DVs.av, DV.av, BR.av, hρ], impl_IsName_fn v110 F' (by rw [hi]; rfl) (st_nil hi) ⟨trivial, trivial⟩ hy⟩) rfl
  · cases hr
/-! impl.isSide -/
noncomputable def impl_isSide_LO (v124 : Int) : LOr := fun id e L =>
  match id with
  | _ => .fail
noncomputable def impl_isSide_tab : List (FuncId × DFn × Bool) := [(78, impl_inRange_F, true)]
theorem impl_isSide_hO : OrcOk Try.prog (tabD impl_isSide_tab) (tabM impl_isSide_tab) := tabD_cons impl_inRange_Fok (tabD_nil _)
noncomputable def impl_isSide_T (v124 : Int) : Tree (Bool) :=
  .leaf (impl_inRange_v v124 (1 : Int) (12 : Int))

noncomputable def impl_isSide_g (v124 : Int) : Option (Bool) := (impl_isSide_T v124).run
def impl_isSide_enc (v124 : Int) (y : Bool) : Rs := (.bool y, [])
theorem impl_isSide_den (v124 : Int) : (den TT (tabD impl_isSide_tab) (tabM impl_isSide_tab) (impl_isSide_LO v124) (codeOf Try.f79) ([.int .i64 v124] ++ List.replicate (Try.f79.ntmps - ([.int .i64 v124] : List DV).length) .undef) []).bind (retD TT Try.f79.results.toList 0) = (impl_isSide_T v124).bind fun y => .leaf (impl_isSide_enc v124 y) := by kernel_rfl
theorem impl_isSide_fn (v124 : Int) (F : Fr) (hm : F.ids.length = 0) (h0 : St F [] F.H0) (hA : DVs.Ok F [] [.int .i64 v124]) {y : Bool} (hy : impl_isSide_g v124 = some y) : ∃ H', FnOk Try.prog 79 (DVs.av F [.int .i64 v124]) F.H0 ((impl_isSide_enc v124 y).1.av F) H' ∧ St F (impl_isSide_enc v124 y).2 H' ∧ (impl_isSide_enc v124 y).1.Ok F (impl_isSide_enc v124 y).2 :=
  fn_fin tok impl_isSide_hO mixed Try.func79 Try.call79 (by kernel_rfl) (LoopsOk_eq (l := []) (by kernel_rfl) trivial) (impl_isSide_den v124) hy hm h0 hA
def impl_isSide_v (v124 : Int) : Bool :=
  (impl_inRange_v v124 (1 : Int) (12 : Int))
theorem impl_isSide_tot (v124 : Int) : impl_isSide_g v124 = some (impl_isSide_v v124) := by
  unfold impl_isSide_g impl_isSide_T impl_isSide_v
  simp only [Tree.run]
  repeat' (first | rfl | split)
noncomputable def impl_isSide_F : DFn := fun args L =>
  match args with
  | [.int .i64 v124] =>
    .leaf (.bool (impl_isSide_v v124), L)
  | _ => .fail
theorem impl_isSide_Fok : COk Try.prog 79 impl_isSide_F true := by
  intro F L H args r L' hs ha hr
  unfold impl_isSide_F at hr
  split at hr
  · rename_i v124
    have hy := impl_isSide_tot v124
    generalize impl_isSide_v v124 = y at hy hr
    simp only [Tree.run, Option.some.injEq, Prod.mk.injEq] at hr
    obtain ⟨rfl, rfl⟩ := hr
    exact call_ok0 hs (fun k => (([] : List AV)[k]?).getD .top) [.int .i64 v124] [.int .i64 v124] (fun F' h0 hi hρ => ⟨by simp [DVs.av, DV.av, BR.av, hρ], impl_isSide_fn v124 F' (by rw [hi]; rfl) (st_nil hi) ⟨trivial, trivial⟩ hy⟩) rfl
  · cases hr
/-! impl.length[float32] -/
noncomputable def impl_lengthF_LO (v125 : List Nat) : LOr := fun id e L =>
  match id with
  | _ => .fail
noncomputable def impl_lengthF_tab : List (FuncId × DFn × Bool) := []
theorem impl_lengthF_hO : OrcOk Try.prog (tabD impl_lengthF_tab) (tabM impl_lengthF_tab) := tabD_nil _
noncomputable def impl_lengthF_T (v125 : List Nat) : Tree (Int) :=
  .leaf ((v125.length : Nat) : Int)

noncomputable def impl_lengthF_g (v125 : List Nat) : Option (Int) := (impl_lengthF_T v125).run
def impl_lengthF_enc (v125 : List Nat) (y : Int) : Rs := (.int .i64 y, [])
theorem impl_lengthF_den (v125 : List Nat) : (den TT (tabD impl_lengthF_tab) (tabM impl_lengthF_tab) (impl_lengthF_LO v125) (codeOf Try.f80) ([.bslc (BR.root 0) (.f32 v125)] ++ List.replicate (Try.f80.ntmps - ([.bslc (BR.root 0) (.f32 v125)] : List DV).length) .undef) []).bind (retD TT Try.f80.results.toList 0) = (impl_lengthF_T v125).bind fun y => .leaf (impl_lengthF_enc v125 y) := by kernel_rfl
theorem impl_lengthF_fn (v125 : List Nat) (F : Fr) (hm : F.ids.length = 0) (h0 : St F [] F.H0) (hA : DVs.Ok F [] [.bslc (BR.root 0) (.f32 v125)]) {y : Int} (hy : impl_lengthF_g v125 = some y) : ∃ H', FnOk Try.prog 80 (DVs.av F [.bslc (BR.root 0) (.f32 v125)]) F.H0 ((impl_lengthF_enc v125 y).1.av F) H' ∧ St F (impl_lengthF_enc v125 y).2 H' ∧ (impl_lengthF_enc v125 y).1.Ok F (impl_lengthF_enc v125 y).2 :=
  fn_fin tok impl_lengthF_hO mixed Try.func80 Try.call80 (by kernel_rfl) (LoopsOk_eq (l := []) (by kernel_rfl) trivial) (impl_lengthF_den v125) hy hm h0 hA
def impl_lengthF_v (v125 : List Nat) : Int :=
  ((v125.length : Nat) : Int)
theorem impl_lengthF_tot (v125 : List Nat) : impl_lengthF_g v125 = some (impl_lengthF_v v125) := by
  unfold impl_lengthF_g impl_lengthF_T impl_lengthF_v
  simp only [Tree.run]
  repeat' (first | rfl | split)
noncomputable def impl_lengthF_F : DFn := fun args L =>
  match args with
  | [a1] =>
    optT (rowF32 L a1) fun v125 =>
    .leaf (.int .i64 (impl_lengthF_v v125), L)
  | _ => .fail
theorem impl_lengthF_Fok : COk Try.prog 80 impl_lengthF_F true := by
  intro F L H args r L' hs ha hr
  unfold impl_lengthF_F at hr
  split at hr
  · rename_i a1
    obtain ⟨v125, hv125, hr⟩ := optT_run hr
    have hy := impl_lengthF_tot v125
    generalize impl_lengthF_v v125 = y at hy hr
    simp only [Tree.run, Option.some.injEq, Prod.mk.injEq] at hr
    obtain ⟨rfl, rfl⟩ := hr
    exact call_ok0 hs (fun k => (([a1.av F] : List AV)[k]?).getD .top) [a1] [.bslc (BR.root 0) (.f32 v125)] (fun F' h0 hi hρ => ⟨by simp [DVs.av, DV.av, BR.av, hρ], impl_lengthF_fn v125 F' (by rw [hi]; rfl) (st_nil hi) ⟨bslc_ok hi (by rw [h0, hρ]; exact rowF32_ok hs (DVs.okAt ha 0 rfl) hv125), trivial⟩ hy⟩) rfl
  · cases hr
/-! math.IsNaN -/
noncomputable def math_IsNaN_LO (v133 : Nat) : LOr := fun id e L =>
  match id with
  | _ => .fail
noncomputable def math_IsNaN_tab : List (FuncId × DFn × Bool) := []
theorem math_IsNaN_hO : OrcOk Try.prog (tabD math_IsNaN_tab) (tabM math_IsNaN_tab) := tabD_nil _
noncomputable def math_IsNaN_T (v133 : Nat) : Tree (Bool) :=
  .leaf (!feq .f64 v133 v133)

noncomputable def math_IsNaN_g (v133 : Nat) : Option (Bool) := (math_IsNaN_T v133).run
def math_IsNaN_enc (v133 : Nat) (y : Bool) : Rs := (.bool y, [])
theorem math_IsNaN_den (v133 : Nat) : (den TT (tabD math_IsNaN_tab) (tabM math_IsNaN_tab) (math_IsNaN_LO v133) (codeOf Try.f98) ([.flt .f64 v133] ++ List.replicate (Try.f98.ntmps - ([.flt .f64 v133] : List DV).length) .undef) []).bind (retD TT Try.f98.results.toList 0) = (math_IsNaN_T v133).bind fun y => .leaf (math_IsNaN_enc v133 y) := by kernel_rfl
theorem math_IsNaN_fn (v133 : Nat) (F : Fr) (hm : F.ids.length = 0) (h0 : St F [] F.H0) (hA : DVs.Ok F [] [.flt .f64 v133]) {y : Bool} (hy : math_IsNaN_g v133 = some y) : ∃ H', FnOk Try.prog 98 (DVs.av F [.flt .f64 v133]) F.H0 ((math_IsNaN_enc v133 y).1.av F) H' ∧ St F (math_IsNaN_enc v133 y).2 H' ∧ (math_IsNaN_enc v133 y).1.Ok F (math_IsNaN_enc v133 y).2 :=
  fn_fin tok math_IsNaN_hO mixed Try.func98 Try.call98 (by kernel_rfl) (LoopsOk_eq (l := []) (by kernel_rfl) trivial) (math_IsNaN_den v133) hy hm h0 hA
def math_IsNaN_v (v133 : Nat) : Bool :=
  !feq .f64 v133 v133
theorem math_IsNaN_tot (v133 : Nat) : math_IsNaN_g v133 = some (math_IsNaN_v v133) := by
  unfold math_IsNaN_g math_IsNaN_T math_IsNaN_v
  simp only [Tree.run]
  repeat' (first | rfl | split)
noncomputable def math_IsNaN_F : DFn := fun args L =>
  match args with
  | [.flt .f64 v133] =>
    .leaf (.bool (math_IsNaN_v v133), L)
  | _ => .fail
theorem math_IsNaN_Fok : COk Try.prog 98 math_IsNaN_F true := by
  intro F L H args r L' hs ha hr
  unfold math_IsNaN_F at hr
  split at hr
  · rename_i v133
    have hy := math_IsNaN_tot v133
    generalize math_IsNaN_v v133 = y at hy hr
    simp only [Tree.run, Option.some.injEq, Prod.mk.injEq] at hr
    obtain ⟨rfl, rfl⟩ := hr
    exact call_ok0 hs (fun k => (([] : List AV)[k]?).getD .top) [.flt .f64 v133] [.flt .f64 v133] (fun F' h0 hi hρ => ⟨by simp [DVs.av, DV.av, BR.av, hρ], math_IsNaN_fn v133 F' (by rw [hi]; rfl) (st_nil hi) ⟨trivial, trivial⟩ hy⟩) rfl
  · cases hr
/-! math.IsInf -/
noncomputable def math_IsInf_LO (v134 : Nat) (v135 : Int) : LOr := fun id e L =>
  match id with
  | _ => .fail
noncomputable def math_IsInf_tab : List (FuncId × DFn × Bool) := [(100, Abs_F, true)]
theorem math_IsInf_hO : OrcOk Try.prog (tabD math_IsInf_tab) (tabM math_IsInf_tab) := tabD_cons Abs_Fok (tabD_nil _)
noncomputable def math_IsInf_T (v134 : Nat) (v135 : Int) : Tree (Bool) :=
  (.br (decide (v135 = (0 : Int))) (
   .leaf (fgrt .f64 (fabs v134) (9218868437227405311 : Nat))
  ) (
   (.br (decide (v135 < (0 : Int))) (
    .leaf (fgrt .f64 (fneg .f64 v134) (9218868437227405311 : Nat))
   ) (
    .leaf (fgrt .f64 v134 (9218868437227405311 : Nat))
   ))
  ))

noncomputable def math_IsInf_g (v134 : Nat) (v135 : Int) : Option (Bool) := (math_IsInf_T v134 v135).run
def math_IsInf_enc (v134 : Nat) (v135 : Int) (y : Bool) : Rs := (.bool y, [])
theorem math_IsInf_den (v134 : Nat) (v135 : Int) : (den TT (tabD math_IsInf_tab) (tabM math_IsInf_tab) (math_IsInf_LO v134 v135) (codeOf Try.f99) ([.flt .f64 v134, .int .i64 v135] ++ List.replicate (Try.f99.ntmps - ([.flt .f64 v134, .int .i64 v135] : List DV).length) .undef) []).bind (retD TT Try.f99.results.toList 0) = (math_IsInf_T v134 v135).bind fun y => .leaf (math_IsInf_enc v134 v135 y) := by kernel_rfl
theorem math_IsInf_fn (v134 : Nat) (v135 : Int) (F : Fr) (hm : F.ids.length = 0) (h0 : St F [] F.H0) (hA : DVs.Ok F [] [.flt .f64 v134, .int .i64 v135]) {y : Bool} (hy : math_IsInf_g v134 v135 = some y) : ∃ H', FnOk Try.prog 99 (DVs.av F [.flt .f64 v134, .int .i64 v135]) F.H0 ((math_IsInf_enc v134 v135 y).1.av F) H' ∧ St F (math_IsInf_enc v134 v135 y).2 H' ∧ (math_IsInf_enc v134 v135 y).1.Ok F (math_IsInf_enc v134 v135 y).2 :=
  fn_fin tok math_IsInf_hO mixed Try.func99 Try.call99 (by kernel_rfl) (LoopsOk_eq (l := []) (by kernel_rfl) trivial) (math_IsInf_den v134 v135) hy hm h0 hA
def math_IsInf_v (v134 : Nat) (v135 : Int) : Bool :=
  if (decide (v135 = (0 : Int))) = true then (
   fgrt .f64 (fabs v134) (9218868437227405311 : Nat)
  ) else (
   if (decide (v135 < (0 : Int))) = true then (
    fgrt .f64 (fneg .f64 v134) (9218868437227405311 : Nat)
   ) else (
    fgrt .f64 v134 (9218868437227405311 : Nat)
   )
  )
theorem math_IsInf_tot (v134 : Nat) (v135 : Int) : math_IsInf_g v134 v135 = some (math_IsInf_v v134 v135) := by
  unfold math_IsInf_g math_IsInf_T math_IsInf_v
  simp only [Tree.run]
  repeat' (first | rfl | split)
noncomputable def math_IsInf_F : DFn := fun args L =>
  match args with
  | [.flt .f64 v134, .int .i64 v135] =>
    .leaf (.bool (math_IsInf_v v134 v135), L)
  | _ => .fail
theorem math_IsInf_Fok : COk Try.prog 99 math_IsInf_F true := by
  intro F L H args r L' hs ha hr
  unfold math_IsInf_F at hr
  split at hr
  · rename_i v134 v135
    have hy := math_IsInf_tot v134 v135
    generalize math_IsInf_v v134 v135 = y at hy hr
    simp only [Tree.run, Option.some.injEq, Prod.mk.injEq] at hr
    obtain ⟨rfl, rfl⟩ := hr
    exact call_ok0 hs (fun k => (([] : List AV)[k]?).getD .top) [.flt .f64 v134, .int .i64 v135] [.flt .f64 v134, .int .i64 v135] (fun F' h0 hi hρ => ⟨by simp [DVs.av, DV.av, BR.av, hρ], math_IsInf_fn v134 v135 F' (by rw [hi]; rfl) (st_nil hi) ⟨trivial, trivial, trivial⟩ hy⟩) rfl
  · cases hr
/-! impl.isFinite64 -/
noncomputable def impl_isFinite64_LO (v132 : Nat) : LOr := fun id e L =>
  match id with
  | _ => .fail
noncomputable def impl_isFinite64_tab : List (FuncId × DFn × Bool) := [(98, math_IsNaN_F, true), (99, math_IsInf_F, true)]
theorem impl_isFinite64_hO : OrcOk Try.prog (tabD impl_isFinite64_tab) (tabM impl_isFinite64_tab) := tabD_cons math_IsNaN_Fok (tabD_cons math_IsInf_Fok (tabD_nil _))
noncomputable def impl_isFinite64_T (v132 : Nat) : Tree (Bool) :=
  (.br (!(math_IsNaN_v v132)) (
   .leaf (!(math_IsInf_v v132 (0 : Int)))
  ) (
   .leaf false
  ))

noncomputable def impl_isFinite64_g (v132 : Nat) : Option (Bool) := (impl_isFinite64_T v132).run
def impl_isFinite64_enc (v132 : Nat) (y : Bool) : Rs := (.bool y, [])
theorem impl_isFinite64_den (v132 : Nat) : (den TT (tabD impl_isFinite64_tab) (tabM impl_isFinite64_tab) (impl_isFinite64_LO v132) (codeOf Try.f96) ([.flt .f64 v132] ++ List.replicate (Try.f96.ntmps - ([.flt .f64 v132] : List DV).length) .undef) []).bind (retD TT Try.f96.results.toList 0) = (impl_isFinite64_T v132).bind fun y => .leaf (impl_isFinite64_enc v132 y) := by kernel_rfl
theorem impl_isFinite64_fn (v132 : Nat) (F : Fr) (hm : F.ids.length = 0) (h0 : St F [] F.H0) (hA : DVs.Ok F [] [.flt .f64 v132]) {y : Bool} (hy : impl_isFinite64_g v132 = some y) : ∃ H', FnOk Try.prog 96 (DVs.av F [.flt .f64 v132]) F.H0 ((impl_isFinite64_enc v132 y).1.av F) H' ∧ St F (impl_isFinite64_enc v132 y).2 H' ∧ (impl_isFinite64_enc v132 y).1.Ok F (impl_isFinite64_enc v132 y).2 :=
  fn_fin tok impl_isFinite64_hO mixed Try.func96 Try.call96 (by kernel_rfl) (LoopsOk_eq (l := []) (by kernel_rfl) trivial) (impl_isFinite64_den v132) hy hm h0 hA
def impl_isFinite64_v (v132 : Nat) : Bool :=
  if (!(math_IsNaN_v v132)) = true then (
   !(math_IsInf_v v132 (0 : Int))
  ) else (
   false
  )
theorem impl_isFinite64_tot (v132 : Nat) : impl_isFinite64_g v132 = some (impl_isFinite64_v v132) := by
  unfold impl_isFinite64_g impl_isFinite64_T impl_isFinite64_v
  simp only [Tree.run]
  repeat' (first | rfl | split)
noncomputable def impl_isFinite64_F : DFn := fun args L =>
  match args with
  | [.flt .f64 v132] =>
    .leaf (.bool (impl_isFinite64_v v132), L)
  | _ => .fail
theorem impl_isFinite64_Fok : COk Try.prog 96 impl_isFinite64_F true := by
  intro F L H args r L' hs ha hr
  unfold impl_isFinite64_F at hr
  split at hr
  · rename_i v132
    have hy := impl_isFinite64_tot v132
    generalize impl_isFinite64_v v132 = y at hy hr
    simp only [Tree.run, Option.some.injEq, Prod.mk.injEq] at hr
    obtain ⟨rfl, rfl⟩ := hr
    exact call_ok0 hs (fun k => (([] : List AV)[k]?).getD .top) [.flt .f64 v132] [.flt .f64 v132] (fun F' h0 hi hρ => ⟨by simp [DVs.av, DV.av, BR.av, hρ], impl_isFinite64_fn v132 F' (by rw [hi]; rfl) (st_nil hi) ⟨trivial, trivial⟩ hy⟩) rfl
  · cases hr
/-! impl.IsFinite -/
noncomputable def impl_IsFinite_LO (v131 : Nat) : LOr := fun id e L =>
  match id with
  | _ => .fail
noncomputable def impl_IsFinite_tab : List (FuncId × DFn × Bool) := [(96, impl_isFinite64_F, true)]
theorem impl_IsFinite_hO : OrcOk Try.prog (tabD impl_IsFinite_tab) (tabM impl_IsFinite_tab) := tabD_cons impl_isFinite64_Fok (tabD_nil _)
noncomputable def impl_IsFinite_T (v131 : Nat) : Tree (Bool) :=
  .leaf (impl_isFinite64_v (wid v131))

noncomputable def impl_IsFinite_g (v131 : Nat) : Option (Bool) := (impl_IsFinite_T v131).run
def impl_IsFinite_enc (v131 : Nat) (y : Bool) : Rs := (.bool y, [])
theorem impl_IsFinite_den (v131 : Nat) : (den TT (tabD impl_IsFinite_tab) (tabM impl_IsFinite_tab) (impl_IsFinite_LO v131) (codeOf Try.f91) ([.flt .f32 v131] ++ List.replicate (Try.f91.ntmps - ([.flt .f32 v131] : List DV).length) .undef) []).bind (retD TT Try.f91.results.toList 0) = (impl_IsFinite_T v131).bind fun y => .leaf (impl_IsFinite_enc v131 y) := by kernel_rfl
theorem impl_IsFinite_fn (v131 : Nat) (F : Fr) (hm : F.ids.length = 0) (h0 : St F [] F.H0) (hA : DVs.Ok F [] [.flt .f32 v131]) {y : Bool} (hy : impl_IsFinite_g v131 = some y) : ∃ H', FnOk Try.prog 91 (DVs.av F [.flt .f32 v131]) F.H0 ((impl_IsFinite_enc v131 y).1.av F) H' ∧ St F (impl_IsFinite_enc v131 y).2 H' ∧ (impl_IsFinite_enc v131 y).1.Ok F (impl_IsFinite_enc v131 y).2 :=
  fn_fin tok impl_IsFinite_hO mixed Try.func91 Try.call91 (by kernel_rfl) (LoopsOk_eq (l := []) (by kernel_rfl) trivial) (impl_IsFinite_den v131) hy hm h0 hA
def impl_IsFinite_v (v131 : Nat) : Bool :=
  (impl_isFinite64_v (wid v131))
theorem impl_IsFinite_tot (v131 : Nat) : impl_IsFinite_g v131 = some (impl_IsFinite_v v131) := by
  unfold impl_IsFinite_g impl_IsFinite_T impl_IsFinite_v
  simp only [Tree.run]
  repeat' (first | rfl | split)
noncomputable def impl_IsFinite_F : DFn := fun args L =>
  match args with
  | [.flt .f32 v131] =>
    .leaf (.bool (impl_IsFinite_v v131), L)
  | _ => .fail
theorem impl_IsFinite_Fok : COk Try.prog 91 impl_IsFinite_F true := by
  intro F L H args r L' hs ha hr
  unfold impl_IsFinite_F at hr
  split at hr
  · rename_i v131
    have hy := impl_IsFinite_tot v131
    generalize impl_IsFinite_v v131 = y at hy hr
    simp only [Tree.run, Option.some.injEq, Prod.mk.injEq] at hr
    obtain ⟨rfl, rfl⟩ := hr
    exact call_ok0 hs (fun k => (([] : List AV)[k]?).getD .top) [.flt .f32 v131] [.flt .f32 v131] (fun F' h0 hi hρ => ⟨by simp [DVs.av, DV.av, BR.av, hρ], impl_IsFinite_fn v131 F' (by rw [hi]; rfl) (st_nil hi) ⟨trivial, trivial⟩ hy⟩) rfl
  · cases hr
/-! impl.areFinite$1 -/
noncomputable def impl_areFinite_1_LO (v130 : Nat) : LOr := fun id e L =>
  match id with
  | _ => .fail
noncomputable def impl_areFinite_1_tab : List (FuncId × DFn × Bool) := [(91, impl_IsFinite_F, true)]
theorem impl_areFinite_1_hO : OrcOk Try.prog (tabD impl_areFinite_1_tab) (tabM impl_areFinite_1_tab) := tabD_cons impl_IsFinite_Fok (tabD_nil _)
noncomputable def impl_areFinite_1_T (v130 : Nat) : Tree (Bool) :=
  .leaf (!(impl_IsFinite_v v130))

noncomputable def impl_areFinite_1_g (v130 : Nat) : Option (Bool) := (impl_areFinite_1_T v130).run
def impl_areFinite_1_enc (v130 : Nat) (y : Bool) : Rs := (.bool y, [])
theorem impl_areFinite_1_den (v130 : Nat) : (den TT (tabD impl_areFinite_1_tab) (tabM impl_areFinite_1_tab) (impl_areFinite_1_LO v130) (codeOf Try.f90) ([.flt .f32 v130] ++ List.replicate (Try.f90.ntmps - ([.flt .f32 v130] : List DV).length) .undef) []).bind (retD TT Try.f90.results.toList 0) = (impl_areFinite_1_T v130).bind fun y => .leaf (impl_areFinite_1_enc v130 y) := by kernel_rfl
theorem impl_areFinite_1_fn (v130 : Nat) (F : Fr) (hm : F.ids.length = 0) (h0 : St F [] F.H0) (hA : DVs.Ok F [] [.flt .f32 v130]) {y : Bool} (hy : impl_areFinite_1_g v130 = some y) : ∃ H', FnOk Try.prog 90 (DVs.av F [.flt .f32 v130]) F.H0 ((impl_areFinite_1_enc v130 y).1.av F) H' ∧ St F (impl_areFinite_1_enc v130 y).2 H' ∧ (impl_areFinite_1_enc v130 y).1.Ok F (impl_areFinite_1_enc v130 y).2 :=
  fn_fin tok impl_areFinite_1_hO mixed Try.func90 Try.call90 (by kernel_rfl) (LoopsOk_eq (l := []) (by kernel_rfl) trivial) (impl_areFinite_1_den v130) hy hm h0 hA
def impl_areFinite_1_v (v130 : Nat) : Bool :=
  !(impl_IsFinite_v v130)
theorem impl_areFinite_1_tot (v130 : Nat) : impl_areFinite_1_g v130 = some (impl_areFinite_1_v v130) := by
  unfold impl_areFinite_1_g impl_areFinite_1_T impl_areFinite_1_v
  simp only [Tree.run]
  repeat' (first | rfl | split)
noncomputable def impl_areFinite_1_F : DFn := fun args L =>
  match args with
  | [.flt .f32 v130] =>
    .leaf (.bool (impl_areFinite_1_v v130), L)
  | _ => .fail
theorem impl_areFinite_1_Fok : COk Try.prog 90 impl_areFinite_1_F true := by
  intro F L H args r L' hs ha hr
  unfold impl_areFinite_1_F at hr
  split at hr
  · rename_i v130
    have hy := impl_areFinite_1_tot v130
    generalize impl_areFinite_1_v v130 = y at hy hr
    simp only [Tree.run, Option.some.injEq, Prod.mk.injEq] at hr
    obtain ⟨rfl, rfl⟩ := hr
    exact call_ok0 hs (fun k => (([] : List AV)[k]?).getD .top) [.flt .f32 v130] [.flt .f32 v130] (fun F' h0 hi hρ => ⟨by simp [DVs.av, DV.av, BR.av, hρ], impl_areFinite_1_fn v130 F' (by rw [hi]; rfl) (st_nil hi) ⟨trivial, trivial⟩ hy⟩) rfl
  · cases hr
/-! slices.IndexFunc[list of float32,float32] -/
noncomputable def slices_IndexFuncF_l0_T (v128 : List Nat) (s : Int) : Tree ((Int) ⊕ ((Int) ⊕ (Unit))) :=
  (.br (decide (s < ((v128.length : Nat) : Int))) (
   (.grd (inb s v128.length) <|
   (.br (impl_areFinite_1_v (nth v128 (Int.toNat s))) (
    .leaf (.inr (.inl s))
   ) (
    .leaf (.inl (IntKind.i64.wrap (s + (1 : Int))))
   )))
  ) (
   .leaf (.inr (.inr ()))
  ))

noncomputable def slices_IndexFuncF_l0_g (v128 : List Nat) (s0 : Int) : Option ((Int) ⊕ (Unit)) := whileM (fun s => (slices_IndexFuncF_l0_T v128 s).run) s0
def slices_IndexFuncF_l0_E (v128 : List Nat) (s : Int) : Sd := ([.bslc (BR.root 0) (.f32 v128), .fn 90 [], .top, .top, .top, .top, .top, .int .i64 ((v128.length : Nat) : Int), .int .i64 s, .top, .top, .top, .top, .top, .top, .top, .top, .top, .top], [])
def slices_IndexFuncF_l0_X (v128 : List Nat) (x : (Int) ⊕ (Unit)) : Out := (match x with | .inl x => (.ret, [.top, .top, .top, .top, .int .i64 x, .top, .top, .top, .top, .top, .top, .top, .top, .top, .top, .top, .top, .top, .top], []) | .inr x => (.normal, [.top, .top, .top, .top, .top, .top, .top, .top, .top, .top, .top, .top, .top, .top, .top, .top, .top, .top, .top], []))
def slices_IndexFuncF_l0_kill : List Nat := [0, 0, 1, 1, 1, 1, 1, 0, 0, 1, 1, 1, 1, 1, 1, 1, 1, 1, 1]
def slices_IndexFuncF_l0_nx : Exit → List Nat
  | .exit 0 => [1, 1, 1, 1, 1, 1, 1, 1, 1, 1, 1, 1, 1, 1, 1, 1, 1, 1, 1]
  | .ret => [1, 1, 1, 1, 0, 1, 1, 1, 1, 1, 1, 1, 1, 1, 1, 1, 1, 1, 1]
  | _ => []
noncomputable def slices_IndexFuncF_LO (v128 : List Nat) : LOr := fun id e L =>
  match id with
  | 0 => .need (normA 0 slices_IndexFuncF_l0_kill e L = some (slices_IndexFuncF_l0_E v128 (gI (vAt e 8)))) (.call (slices_IndexFuncF_l0_g v128 (gI (vAt e 8))) fun x => .sum x (fun b0 => .leaf (slices_IndexFuncF_l0_X v128 (.inl b0))) (fun c0 => .leaf (slices_IndexFuncF_l0_X v128 (.inr c0))))
  | _ => .fail
noncomputable def slices_IndexFuncF_tab : List (FuncId × DFn × Bool) := [(90, impl_areFinite_1_F, true)]
theorem slices_IndexFuncF_hO : OrcOk Try.prog (tabD slices_IndexFuncF_tab) (tabM slices_IndexFuncF_tab) := tabD_cons impl_areFinite_1_Fok (tabD_nil _)
theorem slices_IndexFuncF_l0_be (v128 : List Nat) (s : Int) : bodyT TT (tabD slices_IndexFuncF_tab) (tabM slices_IndexFuncF_tab) (slices_IndexFuncF_LO v128) 0 slices_IndexFuncF_l0_kill slices_IndexFuncF_l0_nx (bodyOf Try.f95 0) 0 (slices_IndexFuncF_l0_E v128 s) = (slices_IndexFuncF_l0_T v128 s).bind fun y => .leaf (outS (slices_IndexFuncF_l0_E v128) (slices_IndexFuncF_l0_X v128) y) := by kernel_rfl
theorem slices_IndexFuncF_l0_ok (v128 : List Nat) : LSound Try.prog 0 (slices_IndexFuncF_LO v128) 0 (bodyOf Try.f95 0) := by
  intro e L out h
  exact lo_ok (E := slices_IndexFuncF_l0_E v128) (gT := slices_IndexFuncF_l0_T v128) (X := slices_IndexFuncF_l0_X v128) (s0 := (gI (vAt e 8))) tok slices_IndexFuncF_hO mixed (LoopsOk_eq (l := []) (by kernel_rfl) trivial) (slices_IndexFuncF_l0_be v128) rfl (by intro x; (cases x with | inl b => rfl | inr x => exact rfl)) h
noncomputable def slices_IndexFuncF_T (v128 : List Nat) : Tree (Int) :=
  (.need (some (slices_IndexFuncF_l0_E v128 (0 : Int)) = some (slices_IndexFuncF_l0_E v128 (0 : Int))) <|
  (.call (slices_IndexFuncF_l0_g v128 (0 : Int)) fun v138 =>
  (.sum v138 (fun v139 =>
   .leaf v139
  ) (fun v140 =>
   .leaf (-1 : Int)
  ))))

noncomputable def slices_IndexFuncF_g (v128 : List Nat) : Option (Int) := (slices_IndexFuncF_T v128).run
def slices_IndexFuncF_enc (v128 : List Nat) (y : Int) : Rs := (.int .i64 y, [])
theorem slices_IndexFuncF_den (v128 : List Nat) : (den TT (tabD slices_IndexFuncF_tab) (tabM slices_IndexFuncF_tab) (slices_IndexFuncF_LO v128) (codeOf Try.f95) ([.bslc (BR.root 0) (.f32 v128), .fn 90 []] ++ List.replicate (Try.f95.ntmps - ([.bslc (BR.root 0) (.f32 v128), .fn 90 []] : List DV).length) .undef) []).bind (retD TT Try.f95.results.toList 0) = (slices_IndexFuncF_T v128).bind fun y => .leaf (slices_IndexFuncF_enc v128 y) := by kernel_rfl
theorem slices_IndexFuncF_fn (v128 : List Nat) (F : Fr) (hm : F.ids.length = 0) (h0 : St F [] F.H0) (hA : DVs.Ok F [] [.bslc (BR.root 0) (.f32 v128), .fn 90 []]) {y : Int} (hy : slices_IndexFuncF_g v128 = some y) : ∃ H', FnOk Try.prog 95 (DVs.av F [.bslc (BR.root 0) (.f32 v128), .fn 90 []]) F.H0 ((slices_IndexFuncF_enc v128 y).1.av F) H' ∧ St F (slices_IndexFuncF_enc v128 y).2 H' ∧ (slices_IndexFuncF_enc v128 y).1.Ok F (slices_IndexFuncF_enc v128 y).2 :=
  fn_fin tok slices_IndexFuncF_hO mixed Try.func95 Try.call95 (by kernel_rfl) (LoopsOk_eq (l := [(0, bodyOf Try.f95 0)]) (by kernel_rfl) ⟨slices_IndexFuncF_l0_ok v128, trivial⟩) (slices_IndexFuncF_den v128) hy hm h0 hA
noncomputable def slices_IndexFuncF_F : DFn := fun args L =>
  match args with
  | [a1, .fn 90 []] =>
    optT (rowF32 L a1) fun v128 =>
    .call (slices_IndexFuncF_g v128) fun y => .leaf (.int .i64 y, L)
  | _ => .fail
theorem slices_IndexFuncF_Fok : COk Try.prog 95 slices_IndexFuncF_F true := by
  intro F L H args r L' hs ha hr
  unfold slices_IndexFuncF_F at hr
  split at hr
  · rename_i a1
    obtain ⟨v128, hv128, hr⟩ := optT_run hr
    simp only [Tree.run] at hr
    obtain ⟨y, hy, hr⟩ := Option.bind_eq_some_iff.1 hr
    simp only [Tree.run, Option.some.injEq, Prod.mk.injEq] at hr
    obtain ⟨rfl, rfl⟩ := hr
    exact call_ok0 hs (fun k => (([a1.av F] : List AV)[k]?).getD .top) [a1, .fn 90 []] [.bslc (BR.root 0) (.f32 v128), .fn 90 []] (fun F' h0 hi hρ => ⟨by simp [DVs.av, DV.av, BR.av, hρ], slices_IndexFuncF_fn v128 F' (by rw [hi]; rfl) (st_nil hi) ⟨bslc_ok hi (by rw [h0, hρ]; exact rowF32_ok hs (DVs.okAt ha 0 rfl) hv128), trivial, trivial⟩ hy⟩) rfl
  · cases hr
/-! slices.ContainsFunc[list of float32,float32] -/
noncomputable def slices_ContainsFuncF_LO (v127 : List Nat) : LOr := fun id e L =>
  match id with
  | _ => .fail
noncomputable def slices_ContainsFuncF_tab : List (FuncId × DFn × Bool) := [(95, slices_IndexFuncF_F, true)]
theorem slices_ContainsFuncF_hO : OrcOk Try.prog (tabD slices_ContainsFuncF_tab) (tabM slices_ContainsFuncF_tab) := tabD_cons slices_IndexFuncF_Fok (tabD_nil _)
noncomputable def slices_ContainsFuncF_T (v127 : List Nat) : Tree (Bool) :=
  (.call (slices_IndexFuncF_g v127) fun v141 =>
  .leaf (decide ((0 : Int) ≤ v141)))

noncomputable def slices_ContainsFuncF_g (v127 : List Nat) : Option (Bool) := (slices_ContainsFuncF_T v127).run
def slices_ContainsFuncF_enc (v127 : List Nat) (y : Bool) : Rs := (.bool y, [])
theorem slices_ContainsFuncF_den (v127 : List Nat) : (den TT (tabD slices_ContainsFuncF_tab) (tabM slices_ContainsFuncF_tab) (slices_ContainsFuncF_LO v127) (codeOf Try.f89) ([.bslc (BR.root 0) (.f32 v127), .fn 90 []] ++ List.replicate (Try.f89.ntmps - ([.bslc (BR.root 0) (.f32 v127), .fn 90 []] : List DV).length) .undef) []).bind (retD TT Try.f89.results.toList 0) = (slices_ContainsFuncF_T v127).bind fun y => .leaf (slices_ContainsFuncF_enc v127 y) := by kernel_rfl
theorem slices_ContainsFuncF_fn (v127 : List Nat) (F : Fr) (hm : F.ids.length = 0) (h0 : St F [] F.H0) (hA : DVs.Ok F [] [.bslc (BR.root 0) (.f32 v127), .fn 90 []]) {y : Bool} (hy : slices_ContainsFuncF_g v127 = some y) : ∃ H', FnOk Try.prog 89 (DVs.av F [.bslc (BR.root 0) (.f32 v127), .fn 90 []]) F.H0 ((slices_ContainsFuncF_enc v127 y).1.av F) H' ∧ St F (slices_ContainsFuncF_enc v127 y).2 H' ∧ (slices_ContainsFuncF_enc v127 y).1.Ok F (slices_ContainsFuncF_enc v127 y).2 :=
  fn_fin tok slices_ContainsFuncF_hO mixed Try.func89 Try.call89 (by kernel_rfl) (LoopsOk_eq (l := []) (by kernel_rfl) trivial) (slices_ContainsFuncF_den v127) hy hm h0 hA
noncomputable def slices_ContainsFuncF_F : DFn := fun args L =>
  match args with
  | [a1, .fn 90 []] =>
    optT (rowF32 L a1) fun v127 =>
    .call (slices_ContainsFuncF_g v127) fun y => .leaf (.bool y, L)
  | _ => .fail
theorem slices_ContainsFuncF_Fok : COk Try.prog 89 slices_ContainsFuncF_F true := by
  intro F L H args r L' hs ha hr
  unfold slices_ContainsFuncF_F at hr
  split at hr
  · rename_i a1
    obtain ⟨v127, hv127, hr⟩ := optT_run hr
    simp only [Tree.run] at hr
    obtain ⟨y, hy, hr⟩ := Option.bind_eq_some_iff.1 hr
    simp only [Tree.run, Option.some.injEq, Prod.mk.injEq] at hr
    obtain ⟨rfl, rfl⟩ := hr
    exact call_ok0 hs (fun k => (([a1.av F] : List AV)[k]?).getD .top) [a1, .fn 90 []] [.bslc (BR.root 0) (.f32 v127), .fn 90 []] (fun F' h0 hi hρ => ⟨by simp [DVs.av, DV.av, BR.av, hρ], slices_ContainsFuncF_fn v127 F' (by rw [hi]; rfl) (st_nil hi) ⟨bslc_ok hi (by rw [h0, hρ]; exact rowF32_ok hs (DVs.okAt ha 0 rfl) hv127), trivial, trivial⟩ hy⟩) rfl
  · cases hr
/-! impl.areFinite -/
noncomputable def impl_areFinite_LO (v126 : List Nat) : LOr := fun id e L =>
  match id with
  | _ => .fail
noncomputable def impl_areFinite_tab : List (FuncId × DFn × Bool) := [(89, slices_ContainsFuncF_F, true)]
theorem impl_areFinite_hO : OrcOk Try.prog (tabD impl_areFinite_tab) (tabM impl_areFinite_tab) := tabD_cons slices_ContainsFuncF_Fok (tabD_nil _)
noncomputable def impl_areFinite_T (v126 : List Nat) : Tree (Bool) :=
  (.call (slices_ContainsFuncF_g v126) fun v142 =>
  .leaf (!v142))

noncomputable def impl_areFinite_g (v126 : List Nat) : Option (Bool) := (impl_areFinite_T v126).run
def impl_areFinite_enc (v126 : List Nat) (y : Bool) : Rs := (.bool y, [])
theorem impl_areFinite_den (v126 : List Nat) : (den TT (tabD impl_areFinite_tab) (tabM impl_areFinite_tab) (impl_areFinite_LO v126) (codeOf Try.f81) ([.bslc (BR.root 0) (.f32 v126)] ++ List.replicate (Try.f81.ntmps - ([.bslc (BR.root 0) (.f32 v126)] : List DV).length) .undef) []).bind (retD TT Try.f81.results.toList 0) = (impl_areFinite_T v126).bind fun y => .leaf (impl_areFinite_enc v126 y) := by kernel_rfl
theorem impl_areFinite_fn (v126 : List Nat) (F : Fr) (hm : F.ids.length = 0) (h0 : St F [] F.H0) (hA : DVs.Ok F [] [.bslc (BR.root 0) (.f32 v126)]) {y : Bool} (hy : impl_areFinite_g v126 = some y) : ∃ H', FnOk Try.prog 81 (DVs.av F [.bslc (BR.root 0) (.f32 v126)]) F.H0 ((impl_areFinite_enc v126 y).1.av F) H' ∧ St F (impl_areFinite_enc v126 y).2 H' ∧ (impl_areFinite_enc v126 y).1.Ok F (impl_areFinite_enc v126 y).2 :=
  fn_fin tok impl_areFinite_hO mixed Try.func81 Try.call81 (by kernel_rfl) (LoopsOk_eq (l := []) (by kernel_rfl) trivial) (impl_areFinite_den v126) hy hm h0 hA
noncomputable def impl_areFinite_F : DFn := fun args L =>
  match args with
  | [a1] =>
    optT (rowF32 L a1) fun v126 =>
    .call (impl_areFinite_g v126) fun y => .leaf (.bool y, L)
  | _ => .fail
theorem impl_areFinite_Fok : COk Try.prog 81 impl_areFinite_F true := by
  intro F L H args r L' hs ha hr
  unfold impl_areFinite_F at hr
  split at hr
  · rename_i a1
    obtain ⟨v126, hv126, hr⟩ := optT_run hr
    simp only [Tree.run] at hr
    obtain ⟨y, hy, hr⟩ := Option.bind_eq_some_iff.1 hr
    simp only [Tree.run, Option.some.injEq, Prod.mk.injEq] at hr
    obtain ⟨rfl, rfl⟩ := hr
    exact call_ok0 hs (fun k => (([a1.av F] : List AV)[k]?).getD .top) [a1] [.bslc (BR.root 0) (.f32 v126)] (fun F' h0 hi hρ => ⟨by simp [DVs.av, DV.av, BR.av, hρ], impl_areFinite_fn v126 F' (by rw [hi]; rfl) (st_nil hi) ⟨bslc_ok hi (by rw [h0, hρ]; exact rowF32_ok hs (DVs.okAt ha 0 rfl) hv126), trivial⟩ hy⟩) rfl
  · cases hr
/-! impl.ValidMatrix -/
noncomputable def impl_ValidMatrix_LO (v121 : Int) (v122 : Int) (v123 : List Nat) : LOr := fun id e L =>
  match id with
  | _ => .fail
noncomputable def impl_ValidMatrix_tab : List (FuncId × DFn × Bool) := [(79, impl_isSide_F, true), (80, impl_lengthF_F, true), (81, impl_areFinite_F, true)]
theorem impl_ValidMatrix_hO : OrcOk Try.prog (tabD impl_ValidMatrix_tab) (tabM impl_ValidMatrix_tab) := tabD_cons impl_isSide_Fok (tabD_cons impl_lengthF_Fok (tabD_cons impl_areFinite_Fok (tabD_nil _)))
noncomputable def impl_ValidMatrix_T (v121 : Int) (v122 : Int) (v123 : List Nat) : Tree (Bool) :=
  (.br (impl_isSide_v v121) (
   (.br (impl_isSide_v v122) (
    (.br (decide ((impl_lengthF_v v123) = IntKind.i64.wrap (v121 * v122))) (
     (.call (impl_areFinite_g v123) fun v143 =>
     .leaf v143)
    ) (
     .leaf false
    ))
   ) (
    .leaf false
   ))
  ) (
   .leaf false
  ))

noncomputable def impl_ValidMatrix_g (v121 : Int) (v122 : Int) (v123 : List Nat) : Option (Bool) := (impl_ValidMatrix_T v121 v122 v123).run
def impl_ValidMatrix_enc (v121 : Int) (v122 : Int) (v123 : List Nat) (y : Bool) : Rs := (.bool y, [])
theorem impl_ValidMatrix_den (v121 : Int) (v122 : Int) (v123 : List Nat) : (den TT (tabD impl_ValidMatrix_tab) (tabM impl_ValidMatrix_tab) (impl_ValidMatrix_LO v121 v122 v123) (codeOf Try.f58) ([.agg [.int .i64 v121, .int .i64 v122, .bslc (BR.root 0) (.f32 v123)]] ++ List.replicate (Try.f58.ntmps - ([.agg [.int .i64 v121, .int .i64 v122, .bslc (BR.root 0) (.f32 v123)]] : List DV).length) .undef) []).bind (retD TT Try.f58.results.toList 0) = (impl_ValidMatrix_T v121 v122 v123).bind fun y => .leaf (impl_ValidMatrix_enc v121 v122 v123 y) := by kernel_rfl
theorem impl_ValidMatrix_fn (v121 : Int) (v122 : Int) (v123 : List Nat) (F : Fr) (hm : F.ids.length = 0) (h0 : St F [] F.H0) (hA : DVs.Ok F [] [.agg [.int .i64 v121, .int .i64 v122, .bslc (BR.root 0) (.f32 v123)]]) {y : Bool} (hy : impl_ValidMatrix_g v121 v122 v123 = some y) : ∃ H', FnOk Try.prog 58 (DVs.av F [.agg [.int .i64 v121, .int .i64 v122, .bslc (BR.root 0) (.f32 v123)]]) F.H0 ((impl_ValidMatrix_enc v121 v122 v123 y).1.av F) H' ∧ St F (impl_ValidMatrix_enc v121 v122 v123 y).2 H' ∧ (impl_ValidMatrix_enc v121 v122 v123 y).1.Ok F (impl_ValidMatrix_enc v121 v122 v123 y).2 :=
  fn_fin tok impl_ValidMatrix_hO mixed Try.func58 Try.call58 (by kernel_rfl) (LoopsOk_eq (l := []) (by kernel_rfl) trivial) (impl_ValidMatrix_den v121 v122 v123) hy hm h0 hA
noncomputable def impl_ValidMatrix_F : DFn := fun args L =>
  match args with
  | [.agg [.int .i64 v121, .int .i64 v122, a1]] =>
    optT (rowF32 L a1) fun v123 =>
    .call (impl_ValidMatrix_g v121 v122 v123) fun y => .leaf (.bool y, L)
  | _ => .fail
theorem impl_ValidMatrix_Fok : COk Try.prog 58 impl_ValidMatrix_F true := by
  intro F L H args r L' hs ha hr
  unfold impl_ValidMatrix_F at hr
  split at hr
  · rename_i v121 v122 a1
    obtain ⟨v123, hv123, hr⟩ := optT_run hr
    simp only [Tree.run] at hr
    obtain ⟨y, hy, hr⟩ := Option.bind_eq_some_iff.1 hr
    simp only [Tree.run, Option.some.injEq, Prod.mk.injEq] at hr
    obtain ⟨rfl, rfl⟩ := hr
    exact call_ok0 hs (fun k => (([a1.av F] : List AV)[k]?).getD .top) [.agg [.int .i64 v121, .int .i64 v122, a1]] [.agg [.int .i64 v121, .int .i64 v122, .bslc (BR.root 0) (.f32 v123)]] (fun F' h0 hi hρ => ⟨by simp [DVs.av, DV.av, BR.av, hρ], impl_ValidMatrix_fn v121 v122 v123 F' (by rw [hi]; rfl) (st_nil hi) ⟨⟨trivial, trivial, bslc_ok hi (by rw [h0, hρ]; exact rowF32_ok hs (DVs.okAt (DVs.okAt ha 0 rfl) 2 rfl) hv123), trivial⟩, trivial⟩ hy⟩) rfl
  · cases hr
/-! impl.ValidSheet -/
noncomputable def impl_ValidSheet_LO (v106 : ByteArray) (v107 : Int) (v108 : Int) (v109 : List Nat) : LOr := fun id e L =>
  match id with
  | _ => .fail
noncomputable def impl_ValidSheet_tab : List (FuncId × DFn × Bool) := [(57, impl_IsName_F, true), (58, impl_ValidMatrix_F, true)]
theorem impl_ValidSheet_hO : OrcOk Try.prog (tabD impl_ValidSheet_tab) (tabM impl_ValidSheet_tab) := tabD_cons impl_IsName_Fok (tabD_cons impl_ValidMatrix_Fok (tabD_nil _))
noncomputable def impl_ValidSheet_T (v106 : ByteArray) (v107 : Int) (v108 : Int) (v109 : List Nat) : Tree (Bool) :=
  (.call (impl_IsName_g v106) fun v120 =>
  (.br v120 (
   (.call (impl_ValidMatrix_g v107 v108 v109) fun v144 =>
   .leaf v144)
  ) (
   .leaf false
  )))

noncomputable def impl_ValidSheet_g (v106 : ByteArray) (v107 : Int) (v108 : Int) (v109 : List Nat) : Option (Bool) := (impl_ValidSheet_T v106 v107 v108 v109).run
def impl_ValidSheet_enc (v106 : ByteArray) (v107 : Int) (v108 : Int) (v109 : List Nat) (y : Bool) : Rs := (.bool y, [])
theorem impl_ValidSheet_den (v106 : ByteArray) (v107 : Int) (v108 : Int) (v109 : List Nat) : (den TT (tabD impl_ValidSheet_tab) (tabM impl_ValidSheet_tab) (impl_ValidSheet_LO v106 v107 v108 v109) (codeOf Try.f31) ([.agg [.str v106, .int .i64 v107, .int .i64 v108, .bslc (BR.root 0) (.f32 v109)]] ++ List.replicate (Try.f31.ntmps - ([.agg [.str v106, .int .i64 v107, .int .i64 v108, .bslc (BR.root 0) (.f32 v109)]] : List DV).length) .undef) []).bind (retD TT Try.f31.results.toList 0) = (impl_ValidSheet_T v106 v107 v108 v109).bind fun y => .leaf (impl_ValidSheet_enc v106 v107 v108 v109 y) := by kernel_rfl
theorem impl_ValidSheet_fn (v106 : ByteArray) (v107 : Int) (v108 : Int) (v109 : List Nat) (F : Fr) (hm : F.ids.length = 0) (h0 : St F [] F.H0) (hA : DVs.Ok F [] [.agg [.str v106, .int .i64 v107, .int .i64 v108, .bslc (BR.root 0) (.f32 v109)]]) {y : Bool} (hy : impl_ValidSheet_g v106 v107 v108 v109 = some y) : ∃ H', FnOk Try.prog 31 (DVs.av F [.agg [.str v106, .int .i64 v107, .int .i64 v108, .bslc (BR.root 0) (.f32 v109)]]) F.H0 ((impl_ValidSheet_enc v106 v107 v108 v109 y).1.av F) H' ∧ St F (impl_ValidSheet_enc v106 v107 v108 v109 y).2 H' ∧ (impl_ValidSheet_enc v106 v107 v108 v109 y).1.Ok F (impl_ValidSheet_enc v106 v107 v108 v109 y).2 :=
  fn_fin tok impl_ValidSheet_hO mixed Try.func31 Try.call31 (by kernel_rfl) (LoopsOk_eq (l := []) (by kernel_rfl) trivial) (impl_ValidSheet_den v106 v107 v108 v109) hy hm h0 hA
noncomputable def impl_ValidSheet_F : DFn := fun args L =>
  match args with
  | [.agg [.str v106, .int .i64 v107, .int .i64 v108, a1]] =>
    optT (rowF32 L a1) fun v109 =>
    .call (impl_ValidSheet_g v106 v107 v108 v109) fun y => .leaf (.bool y, L)
  | _ => .fail
theorem impl_ValidSheet_Fok : COk Try.prog 31 impl_ValidSheet_F true := by
  intro F L H args r L' hs ha hr
  unfold impl_ValidSheet_F at hr
  split at hr
  · rename_i v106 v107 v108 a1
    obtain ⟨v109, hv109, hr⟩ := optT_run hr
    simp only [Tree.run] at hr
    obtain ⟨y, hy, hr⟩ := Option.bind_eq_some_iff.1 hr
    simp only [Tree.run, Option.some.injEq, Prod.mk.injEq] at hr
    obtain ⟨rfl, rfl⟩ := hr
    exact call_ok0 hs (fun k => (([a1.av F] : List AV)[k]?).getD .top) [.agg [.str v106, .int .i64 v107, .int .i64 v108, a1]] [.agg [.str v106, .int .i64 v107, .int .i64 v108, .bslc (BR.root 0) (.f32 v109)]] (fun F' h0 hi hρ => ⟨by simp [DVs.av, DV.av, BR.av, hρ], impl_ValidSheet_fn v106 v107 v108 v109 F' (by rw [hi]; rfl) (st_nil hi) ⟨⟨trivial, trivial, trivial, bslc_ok hi (by rw [h0, hρ]; exact rowF32_ok hs (DVs.okAt (DVs.okAt ha 0 rfl) 3 rfl) hv109), trivial⟩, trivial⟩ hy⟩) rfl
  · cases hr
/-! impl.BitsOf -/
noncomputable def impl_BitsOf_LO (v151 : Nat) : LOr := fun id e L =>
  match id with
  | _ => .fail
noncomputable def impl_BitsOf_tab : List (FuncId × DFn × Bool) := [(84, Bits32_F, true)]
theorem impl_BitsOf_hO : OrcOk Try.prog (tabD impl_BitsOf_tab) (tabM impl_BitsOf_tab) := tabD_cons Bits32_Fok (tabD_nil _)
noncomputable def impl_BitsOf_T (v151 : Nat) : Tree (Int) :=
  (.br (!feq .f32 v151 v151) (
   .leaf (2143289344 : Int)
  ) (
   (.grd (!isNan .f32 v151) <|
   .leaf (IntKind.i64.wrap (((v151 : Nat) : Int))))
  ))

noncomputable def impl_BitsOf_g (v151 : Nat) : Option (Int) := (impl_BitsOf_T v151).run
def impl_BitsOf_enc (v151 : Nat) (y : Int) : Rs := (.int .i64 y, [])
theorem impl_BitsOf_den (v151 : Nat) : (den TT (tabD impl_BitsOf_tab) (tabM impl_BitsOf_tab) (impl_BitsOf_LO v151) (codeOf Try.f66) ([.flt .f32 v151] ++ List.replicate (Try.f66.ntmps - ([.flt .f32 v151] : List DV).length) .undef) []).bind (retD TT Try.f66.results.toList 0) = (impl_BitsOf_T v151).bind fun y => .leaf (impl_BitsOf_enc v151 y) := by kernel_rfl
theorem impl_BitsOf_fn (v151 : Nat) (F : Fr) (hm : F.ids.length = 0) (h0 : St F [] F.H0) (hA : DVs.Ok F [] [.flt .f32 v151]) {y : Int} (hy : impl_BitsOf_g v151 = some y) : ∃ H', FnOk Try.prog 66 (DVs.av F [.flt .f32 v151]) F.H0 ((impl_BitsOf_enc v151 y).1.av F) H' ∧ St F (impl_BitsOf_enc v151 y).2 H' ∧ (impl_BitsOf_enc v151 y).1.Ok F (impl_BitsOf_enc v151 y).2 :=
  fn_fin tok impl_BitsOf_hO mixed Try.func66 Try.call66 (by kernel_rfl) (LoopsOk_eq (l := []) (by kernel_rfl) trivial) (impl_BitsOf_den v151) hy hm h0 hA
noncomputable def impl_BitsOf_F : DFn := fun args L =>
  match args with
  | [.flt .f32 v151] =>
    .call (impl_BitsOf_g v151) fun y => .leaf (.int .i64 y, L)
  | _ => .fail
theorem impl_BitsOf_Fok : COk Try.prog 66 impl_BitsOf_F true := by
  intro F L H args r L' hs ha hr
  unfold impl_BitsOf_F at hr
  split at hr
  · rename_i v151
    simp only [Tree.run] at hr
    obtain ⟨y, hy, hr⟩ := Option.bind_eq_some_iff.1 hr
    simp only [Tree.run, Option.some.injEq, Prod.mk.injEq] at hr
    obtain ⟨rfl, rfl⟩ := hr
    exact call_ok0 hs (fun k => (([] : List AV)[k]?).getD .top) [.flt .f32 v151] [.flt .f32 v151] (fun F' h0 hi hρ => ⟨by simp [DVs.av, DV.av, BR.av, hρ], impl_BitsOf_fn v151 F' (by rw [hi]; rfl) (st_nil hi) ⟨trivial, trivial⟩ hy⟩) rfl
  · cases hr
/-! impl.bytesOf -/
noncomputable def impl_bytesOf_l0_T (v154 : Int) (s : Int × Int × (List Int)) : Tree ((Int × Int × (List Int)) ⊕ ((List Int))) :=
  (.br (decide (s.2.1 < v154)) (
   (.grd (fits (s.2.2 ++ ([IntKind.u8.wrap (s.1)] : List Int)).length) <|
   (.grd (decide (0 ≤ (8 : Int))) <|
   .leaf (.inl (ishr .i64 s.1 (8 : Int), IntKind.i64.wrap (s.2.1 + (1 : Int)), s.2.2 ++ ([IntKind.u8.wrap (s.1)] : List Int)))))
  ) (
   .leaf (.inr s.2.2)
  ))

noncomputable def impl_bytesOf_l0_g (v154 : Int) (s0 : Int × Int × (List Int)) : Option ((List Int)) := whileM (fun s => (impl_bytesOf_l0_T v154 s).run) s0
def impl_bytesOf_l0_E (v153 : Int) (v154 : Int) (s : Int × Int × (List Int)) : Sd := ([.int .i64 s.1, .top, .top, .top, .top, .own 0 0 ((s.2.2).length), .top, .int .i64 v154, .int .i64 s.2.1, .top, .top, .top, .top, .top, .top, .top, .top, .top, .top], [.row (.u8 s.2.2) 0])
def impl_bytesOf_l0_X (v153 : Int) (v154 : Int) (x : (List Int)) : Out := (.normal, [.top, .top, .top, .top, .top, .own 0 0 ((x).length), .top, .top, .top, .top, .top, .top, .top, .top, .top, .top, .top, .top, .top], [.row (.u8 x) 0])
def impl_bytesOf_l0_kill : List Nat := [0, 1, 1, 1, 1, 0, 1, 0, 0, 1, 1, 1, 1, 1, 1, 1, 1, 1, 1]
def impl_bytesOf_l0_nx : Exit → List Nat
  | .exit 0 => [1, 1, 1, 1, 1, 0, 1, 1, 1, 1, 1, 1, 1, 1, 1, 1, 1, 1, 1]
  | .ret => [1, 1, 1, 1, 0, 1, 1, 1, 1, 1, 1, 1, 1, 1, 1, 1, 1, 1, 1]
  | _ => []
noncomputable def impl_bytesOf_LO (v153 : Int) (v154 : Int) : LOr := fun id e L =>
  match id with
  | 0 => .need (normA 0 impl_bytesOf_l0_kill e L = some (impl_bytesOf_l0_E v153 v154 ((gI (vAt e 0)), (gI (vAt e 8)), (gRI L (vAt e 5))))) (.call (impl_bytesOf_l0_g v154 ((gI (vAt e 0)), (gI (vAt e 8)), (gRI L (vAt e 5)))) fun x => .leaf (impl_bytesOf_l0_X v153 v154 x))
  | _ => .fail
noncomputable def impl_bytesOf_tab : List (FuncId × DFn × Bool) := []
theorem impl_bytesOf_hO : OrcOk Try.prog (tabD impl_bytesOf_tab) (tabM impl_bytesOf_tab) := tabD_nil _
theorem impl_bytesOf_l0_be (v153 : Int) (v154 : Int) (s : Int × Int × (List Int)) : bodyT TT (tabD impl_bytesOf_tab) (tabM impl_bytesOf_tab) (impl_bytesOf_LO v153 v154) 0 impl_bytesOf_l0_kill impl_bytesOf_l0_nx (bodyOf Try.f65 0) 0 (impl_bytesOf_l0_E v153 v154 s) = (impl_bytesOf_l0_T v154 s).bind fun y => .leaf (outS (impl_bytesOf_l0_E v153 v154) (impl_bytesOf_l0_X v153 v154) y) := by kernel_rfl
theorem impl_bytesOf_l0_ok (v153 : Int) (v154 : Int) : LSound Try.prog 0 (impl_bytesOf_LO v153 v154) 0 (bodyOf Try.f65 0) := by
  intro e L out h
  exact lo_ok (E := impl_bytesOf_l0_E v153 v154) (gT := impl_bytesOf_l0_T v154) (X := impl_bytesOf_l0_X v153 v154) (s0 := ((gI (vAt e 0)), (gI (vAt e 8)), (gRI L (vAt e 5)))) tok impl_bytesOf_hO mixed (LoopsOk_eq (l := []) (by kernel_rfl) trivial) (impl_bytesOf_l0_be v153 v154) rfl (by intro x; rfl) h
noncomputable def impl_bytesOf_T (v153 : Int) (v154 : Int) : Tree ((List Int)) :=
  (.need (some (impl_bytesOf_l0_E v153 v154 (v153, (0 : Int), ([] : List Int))) = some (impl_bytesOf_l0_E v153 v154 (v153, (0 : Int), ([] : List Int)))) <|
  (.call (impl_bytesOf_l0_g v154 (v153, (0 : Int), ([] : List Int))) fun v163 =>
  .leaf v163))

noncomputable def impl_bytesOf_g (v153 : Int) (v154 : Int) : Option ((List Int)) := (impl_bytesOf_T v153 v154).run
def impl_bytesOf_enc (v153 : Int) (v154 : Int) (y : (List Int)) : Rs := (.own 0 0 ((y).length), [.row (.u8 y) 0])
theorem impl_bytesOf_den (v153 : Int) (v154 : Int) : (den TT (tabD impl_bytesOf_tab) (tabM impl_bytesOf_tab) (impl_bytesOf_LO v153 v154) (codeOf Try.f65) ([.int .i64 v153, .int .i64 v154] ++ List.replicate (Try.f65.ntmps - ([.int .i64 v153, .int .i64 v154] : List DV).length) .undef) []).bind (retD TT Try.f65.results.toList 0) = (impl_bytesOf_T v153 v154).bind fun y => .leaf (impl_bytesOf_enc v153 v154 y) := by kernel_rfl
theorem impl_bytesOf_fn (v153 : Int) (v154 : Int) (F : Fr) (hm : F.ids.length = 0) (h0 : St F [] F.H0) (hA : DVs.Ok F [] [.int .i64 v153, .int .i64 v154]) {y : (List Int)} (hy : impl_bytesOf_g v153 v154 = some y) : ∃ H', FnOk Try.prog 65 (DVs.av F [.int .i64 v153, .int .i64 v154]) F.H0 ((impl_bytesOf_enc v153 v154 y).1.av F) H' ∧ St F (impl_bytesOf_enc v153 v154 y).2 H' ∧ (impl_bytesOf_enc v153 v154 y).1.Ok F (impl_bytesOf_enc v153 v154 y).2 :=
  fn_fin tok impl_bytesOf_hO mixed Try.func65 Try.call65 (by kernel_rfl) (LoopsOk_eq (l := [(0, bodyOf Try.f65 0)]) (by kernel_rfl) ⟨impl_bytesOf_l0_ok v153 v154, trivial⟩) (impl_bytesOf_den v153 v154) hy hm h0 hA
noncomputable def impl_bytesOf_F : DFn := fun args L =>
  match args with
  | [.int .i64 v153, .int .i64 v154] =>
    .call (impl_bytesOf_g v153 v154) fun y => .leaf (.own (L.length + 0) 0 ((y).length), L ++ [.row (.u8 y) 0])
  | _ => .fail
theorem impl_bytesOf_Fok : COk Try.prog 65 impl_bytesOf_F true := by
  intro F L H args r L' hs ha hr
  unfold impl_bytesOf_F at hr
  split at hr
  · rename_i v153 v154
    simp only [Tree.run] at hr
    obtain ⟨y, hy, hr⟩ := Option.bind_eq_some_iff.1 hr
    simp only [Tree.run, Option.some.injEq, Prod.mk.injEq] at hr
    obtain ⟨rfl, rfl⟩ := hr
    exact call_ok1 hs (fun k => (([] : List AV)[k]?).getD .top) [.int .i64 v153, .int .i64 v154] [.int .i64 v153, .int .i64 v154] (fun F' h0 hi hρ => ⟨by simp [DVs.av, DV.av, BR.av, hρ], impl_bytesOf_fn v153 v154 F' (by rw [hi]; rfl) (st_nil hi) ⟨trivial, trivial, trivial⟩ hy⟩) rfl rfl
  · cases hr
/-! impl.checkOf -/
noncomputable def impl_checkOf_l0_T (v175 : ByteArray) (s : Int × Int) : Tree ((Int × Int) ⊕ (Int)) :=
  (.br (decide (s.2 < ((v175.size : Nat) : Int))) (
   (.grd (inb s.2 v175.size) <|
   (.grd (!decide ((65003 : Int) = 0)) <|
   .leaf (.inl (Int.tmod (IntKind.i64.wrap ((IntKind.i64.wrap ((IntKind.i64.wrap ((863 : Int) * s.1)) + (IntKind.i64.wrap (bt v175 s.2)))) + (157 : Int))) (65003 : Int), IntKind.i64.wrap (s.2 + (1 : Int))))))
  ) (
   .leaf (.inr s.1)
  ))

noncomputable def impl_checkOf_l0_g (v175 : ByteArray) (s0 : Int × Int) : Option (Int) := whileM (fun s => (impl_checkOf_l0_T v175 s).run) s0
def impl_checkOf_l0_E (v174 : Int) (v175 : ByteArray) (s : Int × Int) : Sd := ([.int .i64 s.1, .str v175, .top, .top, .top, .top, .top, .int .i64 ((v175.size : Nat) : Int), .int .i64 s.2, .top, .top, .top, .top, .top, .top, .top, .top, .top, .top, .top, .top, .top], [])
def impl_checkOf_l0_X (v174 : Int) (v175 : ByteArray) (x : Int) : Out := (.normal, [.int .i64 x, .top, .top, .top, .top, .top, .top, .top, .top, .top, .top, .top, .top, .top, .top, .top, .top, .top, .top, .top, .top, .top], [])
def impl_checkOf_l0_kill : List Nat := [0, 0, 1, 1, 1, 1, 1, 0, 0, 1, 1, 1, 1, 1, 1, 1, 1, 1, 1, 1, 1, 1]
def impl_checkOf_l0_nx : Exit → List Nat
  | .exit 0 => [0, 1, 1, 1, 1, 1, 1, 1, 1, 1, 1, 1, 1, 1, 1, 1, 1, 1, 1, 1, 1, 1]
  | .ret => [1, 1, 1, 1, 0, 1, 1, 1, 1, 1, 1, 1, 1, 1, 1, 1, 1, 1, 1, 1, 1, 1]
  | _ => []
noncomputable def impl_checkOf_LO (v174 : Int) (v175 : ByteArray) : LOr := fun id e L =>
  match id with
  | 0 => .need (normA 0 impl_checkOf_l0_kill e L = some (impl_checkOf_l0_E v174 v175 ((gI (vAt e 0)), (gI (vAt e 8))))) (.call (impl_checkOf_l0_g v175 ((gI (vAt e 0)), (gI (vAt e 8)))) fun x => .leaf (impl_checkOf_l0_X v174 v175 x))
  | _ => .fail
noncomputable def impl_checkOf_tab : List (FuncId × DFn × Bool) := []
theorem impl_checkOf_hO : OrcOk Try.prog (tabD impl_checkOf_tab) (tabM impl_checkOf_tab) := tabD_nil _
theorem impl_checkOf_l0_be (v174 : Int) (v175 : ByteArray) (s : Int × Int) : bodyT TT (tabD impl_checkOf_tab) (tabM impl_checkOf_tab) (impl_checkOf_LO v174 v175) 0 impl_checkOf_l0_kill impl_checkOf_l0_nx (bodyOf Try.f67 0) 0 (impl_checkOf_l0_E v174 v175 s) = (impl_checkOf_l0_T v175 s).bind fun y => .leaf (outS (impl_checkOf_l0_E v174 v175) (impl_checkOf_l0_X v174 v175) y) := by kernel_rfl
theorem impl_checkOf_l0_ok (v174 : Int) (v175 : ByteArray) : LSound Try.prog 0 (impl_checkOf_LO v174 v175) 0 (bodyOf Try.f67 0) := by
  intro e L out h
  exact lo_ok (E := impl_checkOf_l0_E v174 v175) (gT := impl_checkOf_l0_T v175) (X := impl_checkOf_l0_X v174 v175) (s0 := ((gI (vAt e 0)), (gI (vAt e 8)))) tok impl_checkOf_hO mixed (LoopsOk_eq (l := []) (by kernel_rfl) trivial) (impl_checkOf_l0_be v174 v175) rfl (by intro x; rfl) h
noncomputable def impl_checkOf_T (v174 : Int) (v175 : ByteArray) : Tree (Int) :=
  (.need (some (impl_checkOf_l0_E v174 v175 (v174, (0 : Int))) = some (impl_checkOf_l0_E v174 v175 (v174, (0 : Int)))) <|
  (.call (impl_checkOf_l0_g v175 (v174, (0 : Int))) fun v182 =>
  .leaf v182))

noncomputable def impl_checkOf_g (v174 : Int) (v175 : ByteArray) : Option (Int) := (impl_checkOf_T v174 v175).run
def impl_checkOf_enc (v174 : Int) (v175 : ByteArray) (y : Int) : Rs := (.int .i64 y, [])
theorem impl_checkOf_den (v174 : Int) (v175 : ByteArray) : (den TT (tabD impl_checkOf_tab) (tabM impl_checkOf_tab) (impl_checkOf_LO v174 v175) (codeOf Try.f67) ([.int .i64 v174, .str v175] ++ List.replicate (Try.f67.ntmps - ([.int .i64 v174, .str v175] : List DV).length) .undef) []).bind (retD TT Try.f67.results.toList 0) = (impl_checkOf_T v174 v175).bind fun y => .leaf (impl_checkOf_enc v174 v175 y) := by kernel_rfl
theorem impl_checkOf_fn (v174 : Int) (v175 : ByteArray) (F : Fr) (hm : F.ids.length = 0) (h0 : St F [] F.H0) (hA : DVs.Ok F [] [.int .i64 v174, .str v175]) {y : Int} (hy : impl_checkOf_g v174 v175 = some y) : ∃ H', FnOk Try.prog 67 (DVs.av F [.int .i64 v174, .str v175]) F.H0 ((impl_checkOf_enc v174 v175 y).1.av F) H' ∧ St F (impl_checkOf_enc v174 v175 y).2 H' ∧ (impl_checkOf_enc v174 v175 y).1.Ok F (impl_checkOf_enc v174 v175 y).2 :=
  fn_fin tok impl_checkOf_hO mixed Try.func67 Try.call67 (by kernel_rfl) (LoopsOk_eq (l := [(0, bodyOf Try.f67 0)]) (by kernel_rfl) ⟨impl_checkOf_l0_ok v174 v175, trivial⟩) (impl_checkOf_den v174 v175) hy hm h0 hA
noncomputable def impl_checkOf_F : DFn := fun args L =>
  match args with
  | [.int .i64 v174, .str v175] =>
    .call (impl_checkOf_g v174 v175) fun y => .leaf (.int .i64 y, L)
  | _ => .fail
theorem impl_checkOf_Fok : COk Try.prog 67 impl_checkOf_F true := by
  intro F L H args r L' hs ha hr
  unfold impl_checkOf_F at hr
  split at hr
  · rename_i v174 v175
    simp only [Tree.run] at hr
    obtain ⟨y, hy, hr⟩ := Option.bind_eq_some_iff.1 hr
    simp only [Tree.run, Option.some.injEq, Prod.mk.injEq] at hr
    obtain ⟨rfl, rfl⟩ := hr
    exact call_ok0 hs (fun k => (([] : List AV)[k]?).getD .top) [.int .i64 v174, .str v175] [.int .i64 v174, .str v175] (fun F' h0 hi hρ => ⟨by simp [DVs.av, DV.av, BR.av, hρ], impl_checkOf_fn v174 v175 F' (by rw [hi]; rfl) (st_nil hi) ⟨trivial, trivial, trivial⟩ hy⟩) rfl
  · cases hr
/-! impl.storeSheet -/
noncomputable def impl_storeSheet_l0_T (v149 : List Nat) (s : Int × (List Int)) : Tree ((Int × (List Int)) ⊕ ((List Int))) :=
  (.br (decide (s.1 < ((v149.length : Nat) : Int))) (
   (.grd (inb s.1 v149.length) <|
   (.call (impl_BitsOf_g (nth v149 (Int.toNat s.1))) fun v171 =>
   (.call (impl_bytesOf_g v171 (4 : Int)) fun v172 =>
   (.grd (fits (s.2 ++ v172).length) <|
   .leaf (.inl (IntKind.i64.wrap (s.1 + (1 : Int)), s.2 ++ v172))))))
  ) (
   .leaf (.inr s.2)
  ))

noncomputable def impl_storeSheet_l0_g (v149 : List Nat) (s0 : Int × (List Int)) : Option ((List Int)) := whileM (fun s => (impl_storeSheet_l0_T v149 s).run) s0
def impl_storeSheet_l0_E (v146 : ByteArray) (v147 : Int) (v148 : Int) (v149 : List Nat) (s : Int × (List Int)) : Sd := ([.top, .top, .top, .own 0 0 ((s.2).length), .top, .top, .top, .top, .top, .top, .top, .top, .top, .top, .top, .top, .top, .top, .top, .top, .top, .top, .top, .top, .top, .top, .top, .top, .top, .top, .top, .bslc (BR.root 0) (.f32 v149), .int .i64 ((v149.length : Nat) : Int), .int .i64 s.1, .top, .top, .top, .top, .top, .top, .top, .top, .top, .top, .top, .top, .top, .top, .top, .top], [.row (.u8 s.2) 0])
def impl_storeSheet_l0_X (v146 : ByteArray) (v147 : Int) (v148 : Int) (v149 : List Nat) (x : (List Int)) : Out := (.normal, [.top, .top, .top, .own 0 0 ((x).length), .top, .top, .top, .top, .top, .top, .top, .top, .top, .top, .top, .top, .top, .top, .top, .top, .top, .top, .top, .top, .top, .top, .top, .top, .top, .top, .top, .top, .top, .top, .top, .top, .top, .top, .top, .top, .top, .top, .top, .top, .top, .top, .top, .top, .top, .top], [.row (.u8 x) 0])
def impl_storeSheet_l0_kill : List Nat := [1, 1, 1, 0, 1, 1, 1, 1, 1, 1, 1, 1, 1, 1, 1, 1, 1, 1, 1, 1, 1, 1, 1, 1, 1, 1, 1, 1, 1, 1, 1, 0, 0, 0, 1, 1, 1, 1, 1, 1, 1, 1, 1, 1, 1, 1, 1, 1, 1, 1]
def impl_storeSheet_l0_nx : Exit → List Nat
  | .exit 0 => [1, 1, 1, 0, 1, 1, 1, 1, 1, 1, 1, 1, 1, 1, 1, 1, 1, 1, 1, 1, 1, 1, 1, 1, 1, 1, 1, 1, 1, 1, 1, 1, 1, 1, 1, 1, 1, 1, 1, 1, 1, 1, 1, 1, 1, 1, 1, 1, 1, 1]
  | .ret => [1, 1, 0, 1, 1, 1, 1, 1, 1, 1, 1, 1, 1, 1, 1, 1, 1, 1, 1, 1, 1, 1, 1, 1, 1, 1, 1, 1, 1, 1, 1, 1, 1, 1, 1, 1, 1, 1, 1, 1, 1, 1, 1, 1, 1, 1, 1, 1, 1, 1]
  | _ => []
noncomputable def impl_storeSheet_LO (v146 : ByteArray) (v147 : Int) (v148 : Int) (v149 : List Nat) : LOr := fun id e L =>
  match id with
  | 0 => .need (normA 0 impl_storeSheet_l0_kill e L = some (impl_storeSheet_l0_E v146 v147 v148 v149 ((gI (vAt e 33)), (gRI L (vAt e 3))))) (.call (impl_storeSheet_l0_g v149 ((gI (vAt e 33)), (gRI L (vAt e 3)))) fun x => .leaf (impl_storeSheet_l0_X v146 v147 v148 v149 x))
  | _ => .fail
noncomputable def impl_storeSheet_tab : List (FuncId × DFn × Bool) := [(66, impl_BitsOf_F, true), (65, impl_bytesOf_F, true), (67, impl_checkOf_F, true)]
theorem impl_storeSheet_hO : OrcOk Try.prog (tabD impl_storeSheet_tab) (tabM impl_storeSheet_tab) := tabD_cons impl_BitsOf_Fok (tabD_cons impl_bytesOf_Fok (tabD_cons impl_checkOf_Fok (tabD_nil _)))
theorem impl_storeSheet_l0_be (v146 : ByteArray) (v147 : Int) (v148 : Int) (v149 : List Nat) (s : Int × (List Int)) : bodyT TT (tabD impl_storeSheet_tab) (tabM impl_storeSheet_tab) (impl_storeSheet_LO v146 v147 v148 v149) 0 impl_storeSheet_l0_kill impl_storeSheet_l0_nx (bodyOf Try.f37 0) 0 (impl_storeSheet_l0_E v146 v147 v148 v149 s) = (impl_storeSheet_l0_T v149 s).bind fun y => .leaf (outS (impl_storeSheet_l0_E v146 v147 v148 v149) (impl_storeSheet_l0_X v146 v147 v148 v149) y) := by kernel_rfl
theorem impl_storeSheet_l0_ok (v146 : ByteArray) (v147 : Int) (v148 : Int) (v149 : List Nat) : LSound Try.prog 0 (impl_storeSheet_LO v146 v147 v148 v149) 0 (bodyOf Try.f37 0) := by
  intro e L out h
  exact lo_ok (E := impl_storeSheet_l0_E v146 v147 v148 v149) (gT := impl_storeSheet_l0_T v149) (X := impl_storeSheet_l0_X v146 v147 v148 v149) (s0 := ((gI (vAt e 33)), (gRI L (vAt e 3)))) tok impl_storeSheet_hO mixed (LoopsOk_eq (l := []) (by kernel_rfl) trivial) (impl_storeSheet_l0_be v146 v147 v148 v149) rfl (by intro x; rfl) h
noncomputable def impl_storeSheet_T (v146 : ByteArray) (v147 : Int) (v148 : Int) (v149 : List Nat) : Tree (ByteArray) :=
  (.grd (decide (0 < (([(77 : Int), (65 : Int), (84 : Int), (49 : Int)] : List Int).length))) <|
  (.grd (fits (([(77 : Int), (65 : Int), (84 : Int), (49 : Int)] : List Int) ++ ([IntKind.u8.wrap (((v146.size : Nat) : Int))] : List Int)).length) <|
  (.grd (fits ((([(77 : Int), (65 : Int), (84 : Int), (49 : Int)] : List Int) ++ ([IntKind.u8.wrap (((v146.size : Nat) : Int))] : List Int)) ++ numsS v146).length) <|
  (.grd (fits (((([(77 : Int), (65 : Int), (84 : Int), (49 : Int)] : List Int) ++ ([IntKind.u8.wrap (((v146.size : Nat) : Int))] : List Int)) ++ numsS v146) ++ ([IntKind.u8.wrap (v147), IntKind.u8.wrap (v148)] : List Int)).length) <|
  (.need (some (impl_storeSheet_l0_E v146 v147 v148 v149 ((0 : Int), ((([(77 : Int), (65 : Int), (84 : Int), (49 : Int)] : List Int) ++ ([IntKind.u8.wrap (((v146.size : Nat) : Int))] : List Int)) ++ numsS v146) ++ ([IntKind.u8.wrap (v147), IntKind.u8.wrap (v148)] : List Int))) = some (impl_storeSheet_l0_E v146 v147 v148 v149 ((0 : Int), ((([(77 : Int), (65 : Int), (84 : Int), (49 : Int)] : List Int) ++ ([IntKind.u8.wrap (((v146.size : Nat) : Int))] : List Int)) ++ numsS v146) ++ ([IntKind.u8.wrap (v147), IntKind.u8.wrap (v148)] : List Int)))) <|
  (.call (impl_storeSheet_l0_g v149 ((0 : Int), ((([(77 : Int), (65 : Int), (84 : Int), (49 : Int)] : List Int) ++ ([IntKind.u8.wrap (((v146.size : Nat) : Int))] : List Int)) ++ numsS v146) ++ ([IntKind.u8.wrap (v147), IntKind.u8.wrap (v148)] : List Int))) fun v173 =>
  (.call (impl_checkOf_g (0 : Int) (strOfNums v173)) fun v183 =>
  (.call (impl_bytesOf_g v183 (2 : Int)) fun v184 =>
  (.grd (fits (v173 ++ v184).length) <|
  .leaf (strOfNums (v173 ++ v184)))))))))))

noncomputable def impl_storeSheet_g (v146 : ByteArray) (v147 : Int) (v148 : Int) (v149 : List Nat) : Option (ByteArray) := (impl_storeSheet_T v146 v147 v148 v149).run
def impl_storeSheet_enc (v146 : ByteArray) (v147 : Int) (v148 : Int) (v149 : List Nat) (y : ByteArray) : Rs := (.str y, [])
theorem impl_storeSheet_den (v146 : ByteArray) (v147 : Int) (v148 : Int) (v149 : List Nat) : (den TT (tabD impl_storeSheet_tab) (tabM impl_storeSheet_tab) (impl_storeSheet_LO v146 v147 v148 v149) (codeOf Try.f37) ([.agg [.str v146, .int .i64 v147, .int .i64 v148, .bslc (BR.root 0) (.f32 v149)]] ++ List.replicate (Try.f37.ntmps - ([.agg [.str v146, .int .i64 v147, .int .i64 v148, .bslc (BR.root 0) (.f32 v149)]] : List DV).length) .undef) []).bind (retD TT Try.f37.results.toList 0) = (impl_storeSheet_T v146 v147 v148 v149).bind fun y => .leaf (impl_storeSheet_enc v146 v147 v148 v149 y) := by kernel_rfl
theorem impl_storeSheet_fn (v146 : ByteArray) (v147 : Int) (v148 : Int) (v149 : List Nat) (F : Fr) (hm : F.ids.length = 0) (h0 : St F [] F.H0) (hA : DVs.Ok F [] [.agg [.str v146, .int .i64 v147, .int .i64 v148, .bslc (BR.root 0) (.f32 v149)]]) {y : ByteArray} (hy : impl_storeSheet_g v146 v147 v148 v149 = some y) : ∃ H', FnOk Try.prog 37 (DVs.av F [.agg [.str v146, .int .i64 v147, .int .i64 v148, .bslc (BR.root 0) (.f32 v149)]]) F.H0 ((impl_storeSheet_enc v146 v147 v148 v149 y).1.av F) H' ∧ St F (impl_storeSheet_enc v146 v147 v148 v149 y).2 H' ∧ (impl_storeSheet_enc v146 v147 v148 v149 y).1.Ok F (impl_storeSheet_enc v146 v147 v148 v149 y).2 :=
  fn_fin tok impl_storeSheet_hO mixed Try.func37 Try.call37 (by kernel_rfl) (LoopsOk_eq (l := [(0, bodyOf Try.f37 0)]) (by kernel_rfl) ⟨impl_storeSheet_l0_ok v146 v147 v148 v149, trivial⟩) (impl_storeSheet_den v146 v147 v148 v149) hy hm h0 hA
noncomputable def impl_storeSheet_F : DFn := fun args L =>
  match args with
  | [.agg [.str v146, .int .i64 v147, .int .i64 v148, a1]] =>
    optT (rowF32 L a1) fun v149 =>
    .call (impl_storeSheet_g v146 v147 v148 v149) fun y => .leaf (.str y, L)
  | _ => .fail
theorem impl_storeSheet_Fok : COk Try.prog 37 impl_storeSheet_F true := by
  intro F L H args r L' hs ha hr
  unfold impl_storeSheet_F at hr
  split at hr
  · rename_i v146 v147 v148 a1
    obtain ⟨v149, hv149, hr⟩ := optT_run hr
    simp only [Tree.run] at hr
    obtain ⟨y, hy, hr⟩ := Option.bind_eq_some_iff.1 hr
    simp only [Tree.run, Option.some.injEq, Prod.mk.injEq] at hr
    obtain ⟨rfl, rfl⟩ := hr
    exact call_ok0 hs (fun k => (([a1.av F] : List AV)[k]?).getD .top) [.agg [.str v146, .int .i64 v147, .int .i64 v148, a1]] [.agg [.str v146, .int .i64 v147, .int .i64 v148, .bslc (BR.root 0) (.f32 v149)]] (fun F' h0 hi hρ => ⟨by simp [DVs.av, DV.av, BR.av, hρ], impl_storeSheet_fn v146 v147 v148 v149 F' (by rw [hi]; rfl) (st_nil hi) ⟨⟨trivial, trivial, trivial, bslc_ok hi (by rw [h0, hρ]; exact rowF32_ok hs (DVs.okAt (DVs.okAt ha 0 rfl) 3 rfl) hv149), trivial⟩, trivial⟩ hy⟩) rfl
  · cases hr
/-! impl.loadSheet -/
noncomputable def impl_loadSheet_l0_T (v81 : ByteArray) (s : (Int) ⊕ (Int × (List Nat))) : Tree (((Int) ⊕ (Int × (List Nat))) ⊕ ((Unit) ⊕ ((List Nat)))) :=
  (match s with
  | .inl s => (
  (.br (decide (s < IntKind.i64.wrap ((IntKind.i64.wrap ((7 : Int) + (IntKind.i64.wrap (bt v81 (4 : Int))))) + (IntKind.i64.wrap ((4 : Int) * (IntKind.i64.wrap ((IntKind.i64.wrap (bt v81 (IntKind.i64.wrap ((IntKind.i64.wrap ((7 : Int) + (IntKind.i64.wrap (bt v81 (4 : Int))))) - (2 : Int))))) * (IntKind.i64.wrap (bt v81 (IntKind.i64.wrap ((IntKind.i64.wrap ((7 : Int) + (IntKind.i64.wrap (bt v81 (4 : Int))))) - (1 : Int)))))))))))) (
   (.grd (sok s (IntKind.i64.wrap (s + (4 : Int))) v81.size) <|
   (.call (impl_numberOf_g (ByteArray.extract v81 (Int.toNat s) (Int.toNat (IntKind.i64.wrap (s + (4 : Int)))))) fun v101 =>
   (.grd (fits ([canon .f32 (Int.toNat (IntKind.u32.wrap (v101)))] : List Nat).length) <|
   (.br (decide (([canon .f32 (Int.toNat (IntKind.u32.wrap (v101)))] : List Nat).length = 0)) (
    .fail
   ) (
    .leaf (.inl (.inr (IntKind.i64.wrap (s + (4 : Int)), ([canon .f32 (Int.toNat (IntKind.u32.wrap (v101)))] : List Nat))))
   )))))
  ) (
   .leaf (.inr (.inl ()))
  )))
  | .inr s => (
  (.br (decide (s.1 < IntKind.i64.wrap ((IntKind.i64.wrap ((7 : Int) + (IntKind.i64.wrap (bt v81 (4 : Int))))) + (IntKind.i64.wrap ((4 : Int) * (IntKind.i64.wrap ((IntKind.i64.wrap (bt v81 (IntKind.i64.wrap ((IntKind.i64.wrap ((7 : Int) + (IntKind.i64.wrap (bt v81 (4 : Int))))) - (2 : Int))))) * (IntKind.i64.wrap (bt v81 (IntKind.i64.wrap ((IntKind.i64.wrap ((7 : Int) + (IntKind.i64.wrap (bt v81 (4 : Int))))) - (1 : Int)))))))))))) (
   (.grd (sok s.1 (IntKind.i64.wrap (s.1 + (4 : Int))) v81.size) <|
   (.call (impl_numberOf_g (ByteArray.extract v81 (Int.toNat s.1) (Int.toNat (IntKind.i64.wrap (s.1 + (4 : Int)))))) fun v102 =>
   (.grd (fits (s.2 ++ ([canon .f32 (Int.toNat (IntKind.u32.wrap (v102)))] : List Nat)).length) <|
   .leaf (.inl (.inr (IntKind.i64.wrap (s.1 + (4 : Int)), s.2 ++ ([canon .f32 (Int.toNat (IntKind.u32.wrap (v102)))] : List Nat)))))))
  ) (
   .leaf (.inr (.inr s.2))
  ))))

noncomputable def impl_loadSheet_l0_g (v81 : ByteArray) (s0 : (Int) ⊕ (Int × (List Nat))) : Option ((Unit) ⊕ ((List Nat))) := whileM (fun s => (impl_loadSheet_l0_T v81 s).run) s0
def impl_loadSheet_l0_E (v81 : ByteArray) (s : (Int) ⊕ (Int × (List Nat))) : Sd := (match s with | .inl s => ( ([.str v81, .top, .ptr 0 (0 : Nat) 0 (4 : Nat), .top, .top, .top, .ptr 1 (0 : Nat) 0 (4 : Nat), .top, .int .i64 (IntKind.i64.wrap ((IntKind.i64.wrap ((7 : Int) + (IntKind.i64.wrap (bt v81 (4 : Int))))) + (IntKind.i64.wrap ((4 : Int) * (IntKind.i64.wrap ((IntKind.i64.wrap (bt v81 (IntKind.i64.wrap ((IntKind.i64.wrap ((7 : Int) + (IntKind.i64.wrap (bt v81 (4 : Int))))) - (2 : Int))))) * (IntKind.i64.wrap (bt v81 (IntKind.i64.wrap ((IntKind.i64.wrap ((7 : Int) + (IntKind.i64.wrap (bt v81 (4 : Int))))) - (1 : Int))))))))))), .int .i64 s, .top, .top, .top, .top, .top, .top, .top, .top, .top, .top, .top, .top, .top, .top, .top, .top, .top, .top, .top, .top, .top, .top, .top, .top, .top, .top, .top, .top, .top, .top, .top, .top, .top, .top, .top, .top, .top, .top, .top, .top, .top, .top, .top, .top, .top, .top, .top, .top, .top, .top, .top, .top, .top, .top, .top, .top, .top, .top, .top, .top, .top, .top, .top, .top, .top, .top, .top, .top, .top, .top, .top, .top, .top, .top, .top, .top, .top, .top, .top, .top, .top, .top, .top, .top, .top, .top, .top], [.gen [.str ByteArray.empty, .int .i64 (0 : Int), .int .i64 (0 : Int), .nilslc] false 0, .gen [.str (ByteArray.extract v81 (Int.toNat (5 : Int)) (Int.toNat (IntKind.i64.wrap ((IntKind.i64.wrap ((7 : Int) + (IntKind.i64.wrap (bt v81 (4 : Int))))) - (2 : Int))))), .int .i64 (IntKind.i64.wrap (bt v81 (IntKind.i64.wrap ((IntKind.i64.wrap ((7 : Int) + (IntKind.i64.wrap (bt v81 (4 : Int))))) - (2 : Int))))), .int .i64 (IntKind.i64.wrap (bt v81 (IntKind.i64.wrap ((IntKind.i64.wrap ((7 : Int) + (IntKind.i64.wrap (bt v81 (4 : Int))))) - (1 : Int))))), .nilslc] false 0])) | .inr s => ( ([.str v81, .top, .ptr 0 (0 : Nat) 0 (4 : Nat), .top, .top, .top, .ptr 1 (0 : Nat) 0 (4 : Nat), .top, .int .i64 (IntKind.i64.wrap ((IntKind.i64.wrap ((7 : Int) + (IntKind.i64.wrap (bt v81 (4 : Int))))) + (IntKind.i64.wrap ((4 : Int) * (IntKind.i64.wrap ((IntKind.i64.wrap (bt v81 (IntKind.i64.wrap ((IntKind.i64.wrap ((7 : Int) + (IntKind.i64.wrap (bt v81 (4 : Int))))) - (2 : Int))))) * (IntKind.i64.wrap (bt v81 (IntKind.i64.wrap ((IntKind.i64.wrap ((7 : Int) + (IntKind.i64.wrap (bt v81 (4 : Int))))) - (1 : Int))))))))))), .int .i64 s.1, .top, .top, .top, .top, .top, .top, .top, .top, .top, .top, .top, .top, .top, .top, .top, .top, .top, .top, .top, .top, .top, .top, .top, .top, .top, .top, .top, .top, .top, .top, .top, .top, .top, .top, .top, .top, .top, .top, .top, .top, .top, .top, .top, .top, .top, .top, .top, .top, .top, .top, .top, .top, .top, .top, .top, .top, .top, .top, .top, .top, .top, .top, .top, .top, .top, .top, .top, .top, .top, .top, .top, .top, .top, .top, .top, .top, .top, .top, .top, .top, .top, .top, .top, .top, .top, .top, .top], [.gen [.str ByteArray.empty, .int .i64 (0 : Int), .int .i64 (0 : Int), .nilslc] false 0, .gen [.str (ByteArray.extract v81 (Int.toNat (5 : Int)) (Int.toNat (IntKind.i64.wrap ((IntKind.i64.wrap ((7 : Int) + (IntKind.i64.wrap (bt v81 (4 : Int))))) - (2 : Int))))), .int .i64 (IntKind.i64.wrap (bt v81 (IntKind.i64.wrap ((IntKind.i64.wrap ((7 : Int) + (IntKind.i64.wrap (bt v81 (4 : Int))))) - (2 : Int))))), .int .i64 (IntKind.i64.wrap (bt v81 (IntKind.i64.wrap ((IntKind.i64.wrap ((7 : Int) + (IntKind.i64.wrap (bt v81 (4 : Int))))) - (1 : Int))))), .own 2 0 ((s.2).length)] false 0, .row (.f32 s.2) 0]))) 
def impl_loadSheet_l0_X (v81 : ByteArray) (x : (Unit) ⊕ ((List Nat))) : Out := (match x with | .inl x => (.normal, [.str v81, .top, .ptr 0 (0 : Nat) 0 (4 : Nat), .top, .top, .top, .ptr 1 (0 : Nat) 0 (4 : Nat), .top, .int .i64 (IntKind.i64.wrap ((IntKind.i64.wrap ((7 : Int) + (IntKind.i64.wrap (bt v81 (4 : Int))))) + (IntKind.i64.wrap ((4 : Int) * (IntKind.i64.wrap ((IntKind.i64.wrap (bt v81 (IntKind.i64.wrap ((IntKind.i64.wrap ((7 : Int) + (IntKind.i64.wrap (bt v81 (4 : Int))))) - (2 : Int))))) * (IntKind.i64.wrap (bt v81 (IntKind.i64.wrap ((IntKind.i64.wrap ((7 : Int) + (IntKind.i64.wrap (bt v81 (4 : Int))))) - (1 : Int))))))))))), .top, .top, .top, .top, .top, .top, .top, .top, .top, .top, .top, .top, .top, .top, .top, .top, .top, .top, .top, .top, .top, .top, .top, .top, .top, .top, .top, .top, .top, .top, .top, .top, .top, .top, .top, .top, .top, .top, .top, .top, .top, .top, .top, .top, .top, .top, .top, .top, .top, .top, .top, .top, .top, .top, .top, .top, .top, .top, .top, .top, .top, .top, .top, .top, .top, .top, .top, .top, .top, .top, .top, .top, .top, .top, .top, .top, .top, .top, .top, .top, .top, .top, .top, .top, .top, .top, .top, .top], [.gen [.str ByteArray.empty, .int .i64 (0 : Int), .int .i64 (0 : Int), .nilslc] false 0, .gen [.str (ByteArray.extract v81 (Int.toNat (5 : Int)) (Int.toNat (IntKind.i64.wrap ((IntKind.i64.wrap ((7 : Int) + (IntKind.i64.wrap (bt v81 (4 : Int))))) - (2 : Int))))), .int .i64 (IntKind.i64.wrap (bt v81 (IntKind.i64.wrap ((IntKind.i64.wrap ((7 : Int) + (IntKind.i64.wrap (bt v81 (4 : Int))))) - (2 : Int))))), .int .i64 (IntKind.i64.wrap (bt v81 (IntKind.i64.wrap ((IntKind.i64.wrap ((7 : Int) + (IntKind.i64.wrap (bt v81 (4 : Int))))) - (1 : Int))))), .nilslc] false 0]) | .inr x => (.normal, [.str v81, .top, .ptr 0 (0 : Nat) 0 (4 : Nat), .top, .top, .top, .ptr 1 (0 : Nat) 0 (4 : Nat), .top, .int .i64 (IntKind.i64.wrap ((IntKind.i64.wrap ((7 : Int) + (IntKind.i64.wrap (bt v81 (4 : Int))))) + (IntKind.i64.wrap ((4 : Int) * (IntKind.i64.wrap ((IntKind.i64.wrap (bt v81 (IntKind.i64.wrap ((IntKind.i64.wrap ((7 : Int) + (IntKind.i64.wrap (bt v81 (4 : Int))))) - (2 : Int))))) * (IntKind.i64.wrap (bt v81 (IntKind.i64.wrap ((IntKind.i64.wrap ((7 : Int) + (IntKind.i64.wrap (bt v81 (4 : Int))))) - (1 : Int))))))))))), .top, .top, .top, .top, .top, .top, .top, .top, .top, .top, .top, .top, .top, .top, .top, .top, .top, .top, .top, .top, .top, .top, .top, .top, .top, .top, .top, .top, .top, .top, .top, .top, .top, .top, .top, .top, .top, .top, .top, .top, .top, .top, .top, .top, .top, .top, .top, .top, .top, .top, .top, .top, .top, .top, .top, .top, .top, .top, .top, .top, .top, .top, .top, .top, .top, .top, .top, .top, .top, .top, .top, .top, .top, .top, .top, .top, .top, .top, .top, .top, .top, .top, .top, .top, .top, .top, .top, .top], [.gen [.str ByteArray.empty, .int .i64 (0 : Int), .int .i64 (0 : Int), .nilslc] false 0, .gen [.str (ByteArray.extract v81 (Int.toNat (5 : Int)) (Int.toNat (IntKind.i64.wrap ((IntKind.i64.wrap ((7 : Int) + (IntKind.i64.wrap (bt v81 (4 : Int))))) - (2 : Int))))), .int .i64 (IntKind.i64.wrap (bt v81 (IntKind.i64.wrap ((IntKind.i64.wrap ((7 : Int) + (IntKind.i64.wrap (bt v81 (4 : Int))))) - (2 : Int))))), .int .i64 (IntKind.i64.wrap (bt v81 (IntKind.i64.wrap ((IntKind.i64.wrap ((7 : Int) + (IntKind.i64.wrap (bt v81 (4 : Int))))) - (1 : Int))))), .own 2 0 ((x).length)] false 0, .row (.f32 x) 0]))
def impl_loadSheet_l0_kill : List Nat := [0, 1, 0, 1, 1, 1, 0, 1, 0, 0, 1, 1, 1, 1, 1, 1, 1, 1, 1, 1, 1, 1, 1, 1, 1, 1, 1, 1, 1, 1, 1, 1, 1, 1, 1, 1, 1, 1, 1, 1, 1, 1, 1, 1, 1, 1, 1, 1, 1, 1, 1, 1, 1, 1, 1, 1, 1, 1, 1, 1, 1, 1, 1, 1, 1, 1, 1, 1, 1, 1, 1, 1, 1, 1, 1, 1, 1, 1, 1, 1, 1, 1, 1, 1, 1, 1, 1, 1, 1, 1, 1, 1, 1, 1, 1, 1, 1]
def impl_loadSheet_l0_nx : Exit → List Nat
  | .exit 0 => [0, 1, 0, 1, 1, 1, 0, 1, 0, 1, 1, 1, 1, 1, 1, 1, 1, 1, 1, 1, 1, 1, 1, 1, 1, 1, 1, 1, 1, 1, 1, 1, 1, 1, 1, 1, 1, 1, 1, 1, 1, 1, 1, 1, 1, 1, 1, 1, 1, 1, 1, 1, 1, 1, 1, 1, 1, 1, 1, 1, 1, 1, 1, 1, 1, 1, 1, 1, 1, 1, 1, 1, 1, 1, 1, 1, 1, 1, 1, 1, 1, 1, 1, 1, 1, 1, 1, 1, 1, 1, 1, 1, 1, 1, 1, 1, 1]
  | .ret => [1, 1, 0, 0, 0, 1, 1, 1, 1, 1, 1, 1, 1, 1, 1, 1, 1, 1, 1, 1, 1, 1, 1, 1, 1, 1, 1, 1, 1, 1, 1, 1, 1, 1, 1, 1, 1, 1, 1, 1, 1, 1, 1, 1, 1, 1, 1, 1, 1, 1, 1, 1, 1, 1, 1, 1, 1, 1, 1, 1, 1, 1, 1, 1, 1, 1, 1, 1, 1, 1, 1, 1, 1, 1, 1, 1, 1, 1, 1, 1, 1, 1, 1, 1, 1, 1, 1, 1, 1, 1, 1, 1, 1, 1, 1, 1, 1]
  | _ => []
noncomputable def impl_loadSheet_LO (v81 : ByteArray) : LOr := fun id e L =>
  match id with
  | 0 => .need (normA 0 impl_loadSheet_l0_kill e L = some (impl_loadSheet_l0_E v81 (.inl (gI (vAt e 9))))) (.call (impl_loadSheet_l0_g v81 (.inl (gI (vAt e 9)))) fun x => .sum x (fun b0 => .leaf (impl_loadSheet_l0_X v81 (.inl b0))) (fun c0 => .leaf (impl_loadSheet_l0_X v81 (.inr c0))))
  | _ => .fail
noncomputable def impl_loadSheet_tab : List (FuncId × DFn × Bool) := [(72, impl_numberOf_F, true), (71, From32_F, true), (31, impl_ValidSheet_F, true), (37, impl_storeSheet_F, true)]
theorem impl_loadSheet_hO : OrcOk Try.prog (tabD impl_loadSheet_tab) (tabM impl_loadSheet_tab) := tabD_cons impl_numberOf_Fok (tabD_cons From32_Fok (tabD_cons impl_ValidSheet_Fok (tabD_cons impl_storeSheet_Fok (tabD_nil _))))
theorem impl_loadSheet_l0_be0 (v81 : ByteArray) (s : Int) : bodyT TT (tabD impl_loadSheet_tab) (tabM impl_loadSheet_tab) (impl_loadSheet_LO v81) 0 impl_loadSheet_l0_kill impl_loadSheet_l0_nx (bodyOf Try.f40 0) 0 (impl_loadSheet_l0_E v81 (.inl s)) = (impl_loadSheet_l0_T v81 (.inl s)).bind fun y => .leaf (outS (impl_loadSheet_l0_E v81) (impl_loadSheet_l0_X v81) y) := by kernel_rfl
theorem impl_loadSheet_l0_be1 (v81 : ByteArray) (s : Int × (List Nat)) : bodyT TT (tabD impl_loadSheet_tab) (tabM impl_loadSheet_tab) (impl_loadSheet_LO v81) 0 impl_loadSheet_l0_kill impl_loadSheet_l0_nx (bodyOf Try.f40 0) 0 (impl_loadSheet_l0_E v81 (.inr s)) = (impl_loadSheet_l0_T v81 (.inr s)).bind fun y => .leaf (outS (impl_loadSheet_l0_E v81) (impl_loadSheet_l0_X v81) y) := by kernel_rfl
theorem impl_loadSheet_l0_be (v81 : ByteArray) (s : (Int) ⊕ (Int × (List Nat))) : bodyT TT (tabD impl_loadSheet_tab) (tabM impl_loadSheet_tab) (impl_loadSheet_LO v81) 0 impl_loadSheet_l0_kill impl_loadSheet_l0_nx (bodyOf Try.f40 0) 0 (impl_loadSheet_l0_E v81 s) = (impl_loadSheet_l0_T v81 s).bind fun y => .leaf (outS (impl_loadSheet_l0_E v81) (impl_loadSheet_l0_X v81) y) := by 
  rcases s with s | s
  · exact impl_loadSheet_l0_be0 v81 s
  · exact impl_loadSheet_l0_be1 v81 s
theorem impl_loadSheet_l0_ok (v81 : ByteArray) : LSound Try.prog 0 (impl_loadSheet_LO v81) 0 (bodyOf Try.f40 0) := by
  intro e L out h
  exact lo_ok (E := impl_loadSheet_l0_E v81) (gT := impl_loadSheet_l0_T v81) (X := impl_loadSheet_l0_X v81) (s0 := .inl (gI (vAt e 9))) tok impl_loadSheet_hO mixed (LoopsOk_eq (l := []) (by kernel_rfl) trivial) (impl_loadSheet_l0_be v81) rfl (by intro x; (cases x with | inl b => rfl | inr x => exact rfl)) h
noncomputable def impl_loadSheet_T (v81 : ByteArray) : Tree ((ByteArray) ⊕ ((ByteArray × Int × Int × Int) ⊕ (ByteArray × Int × Int × Int × (List Nat)))) :=
  (.br (decide (((v81.size : Nat) : Int) < (5 : Int))) (
   .leaf (.inl ByteArray.empty)
  ) (
   (.grd (inb (4 : Int) v81.size) <|
   (.br (decide (((v81.size : Nat) : Int) < IntKind.i64.wrap ((7 : Int) + (IntKind.i64.wrap (bt v81 (4 : Int)))))) (
    .leaf (.inl ByteArray.empty)
   ) (
    (.grd (inb (4 : Int) v81.size) <|
    (.grd (sok (5 : Int) (IntKind.i64.wrap ((IntKind.i64.wrap ((7 : Int) + (IntKind.i64.wrap (bt v81 (4 : Int))))) - (2 : Int))) v81.size) <|
    (.grd (inb (IntKind.i64.wrap ((IntKind.i64.wrap ((7 : Int) + (IntKind.i64.wrap (bt v81 (4 : Int))))) - (2 : Int))) v81.size) <|
    (.grd (inb (IntKind.i64.wrap ((IntKind.i64.wrap ((7 : Int) + (IntKind.i64.wrap (bt v81 (4 : Int))))) - (1 : Int))) v81.size) <|
    (.br (decide (((v81.size : Nat) : Int) < IntKind.i64.wrap ((IntKind.i64.wrap ((IntKind.i64.wrap ((7 : Int) + (IntKind.i64.wrap (bt v81 (4 : Int))))) + (IntKind.i64.wrap ((4 : Int) * (IntKind.i64.wrap ((IntKind.i64.wrap (bt v81 (IntKind.i64.wrap ((IntKind.i64.wrap ((7 : Int) + (IntKind.i64.wrap (bt v81 (4 : Int))))) - (2 : Int))))) * (IntKind.i64.wrap (bt v81 (IntKind.i64.wrap ((IntKind.i64.wrap ((7 : Int) + (IntKind.i64.wrap (bt v81 (4 : Int))))) - (1 : Int))))))))))) + (2 : Int)))) (
     .leaf (.inl ByteArray.empty)
    ) (
     (.need (some (impl_loadSheet_l0_E v81 (.inl (IntKind.i64.wrap ((7 : Int) + (IntKind.i64.wrap (bt v81 (4 : Int))))))) = some (impl_loadSheet_l0_E v81 (.inl (IntKind.i64.wrap ((7 : Int) + (IntKind.i64.wrap (bt v81 (4 : Int)))))))) <|
     (.call (impl_loadSheet_l0_g v81 (.inl (IntKind.i64.wrap ((7 : Int) + (IntKind.i64.wrap (bt v81 (4 : Int))))))) fun v103 =>
     (.sum v103 (fun v104 =>
      (.call (impl_ValidSheet_g (ByteArray.extract v81 (Int.toNat (5 : Int)) (Int.toNat (IntKind.i64.wrap ((IntKind.i64.wrap ((7 : Int) + (IntKind.i64.wrap (bt v81 (4 : Int))))) - (2 : Int))))) (IntKind.i64.wrap (bt v81 (IntKind.i64.wrap ((IntKind.i64.wrap ((7 : Int) + (IntKind.i64.wrap (bt v81 (4 : Int))))) - (2 : Int))))) (IntKind.i64.wrap (bt v81 (IntKind.i64.wrap ((IntKind.i64.wrap ((7 : Int) + (IntKind.i64.wrap (bt v81 (4 : Int))))) - (1 : Int))))) ([] : List Nat)) fun v145 =>
      (.br (!v145) (
       .leaf (.inl ByteArray.empty)
      ) (
       (.call (impl_storeSheet_g (ByteArray.extract v81 (Int.toNat (5 : Int)) (Int.toNat (IntKind.i64.wrap ((IntKind.i64.wrap ((7 : Int) + (IntKind.i64.wrap (bt v81 (4 : Int))))) - (2 : Int))))) (IntKind.i64.wrap (bt v81 (IntKind.i64.wrap ((IntKind.i64.wrap ((7 : Int) + (IntKind.i64.wrap (bt v81 (4 : Int))))) - (2 : Int))))) (IntKind.i64.wrap (bt v81 (IntKind.i64.wrap ((IntKind.i64.wrap ((7 : Int) + (IntKind.i64.wrap (bt v81 (4 : Int))))) - (1 : Int))))) ([] : List Nat)) fun v185 =>
       (.grd (sok (0 : Int) (IntKind.i64.wrap ((IntKind.i64.wrap ((IntKind.i64.wrap ((7 : Int) + (IntKind.i64.wrap (bt v81 (4 : Int))))) + (IntKind.i64.wrap ((4 : Int) * (IntKind.i64.wrap ((IntKind.i64.wrap (bt v81 (IntKind.i64.wrap ((IntKind.i64.wrap ((7 : Int) + (IntKind.i64.wrap (bt v81 (4 : Int))))) - (2 : Int))))) * (IntKind.i64.wrap (bt v81 (IntKind.i64.wrap ((IntKind.i64.wrap ((7 : Int) + (IntKind.i64.wrap (bt v81 (4 : Int))))) - (1 : Int))))))))))) + (2 : Int))) v81.size) <|
       (.br (!(v185.toList == (ByteArray.extract v81 (Int.toNat (0 : Int)) (Int.toNat (IntKind.i64.wrap ((IntKind.i64.wrap ((IntKind.i64.wrap ((7 : Int) + (IntKind.i64.wrap (bt v81 (4 : Int))))) + (IntKind.i64.wrap ((4 : Int) * (IntKind.i64.wrap ((IntKind.i64.wrap (bt v81 (IntKind.i64.wrap ((IntKind.i64.wrap ((7 : Int) + (IntKind.i64.wrap (bt v81 (4 : Int))))) - (2 : Int))))) * (IntKind.i64.wrap (bt v81 (IntKind.i64.wrap ((IntKind.i64.wrap ((7 : Int) + (IntKind.i64.wrap (bt v81 (4 : Int))))) - (1 : Int))))))))))) + (2 : Int))))).toList)) (
        .leaf (.inl ByteArray.empty)
       ) (
        .leaf (.inr (.inl (ByteArray.extract v81 (Int.toNat (5 : Int)) (Int.toNat (IntKind.i64.wrap ((IntKind.i64.wrap ((7 : Int) + (IntKind.i64.wrap (bt v81 (4 : Int))))) - (2 : Int)))), IntKind.i64.wrap (bt v81 (IntKind.i64.wrap ((IntKind.i64.wrap ((7 : Int) + (IntKind.i64.wrap (bt v81 (4 : Int))))) - (2 : Int)))), IntKind.i64.wrap (bt v81 (IntKind.i64.wrap ((IntKind.i64.wrap ((7 : Int) + (IntKind.i64.wrap (bt v81 (4 : Int))))) - (1 : Int)))), IntKind.i64.wrap ((IntKind.i64.wrap ((IntKind.i64.wrap ((7 : Int) + (IntKind.i64.wrap (bt v81 (4 : Int))))) + (IntKind.i64.wrap ((4 : Int) * (IntKind.i64.wrap ((IntKind.i64.wrap (bt v81 (IntKind.i64.wrap ((IntKind.i64.wrap ((7 : Int) + (IntKind.i64.wrap (bt v81 (4 : Int))))) - (2 : Int))))) * (IntKind.i64.wrap (bt v81 (IntKind.i64.wrap ((IntKind.i64.wrap ((7 : Int) + (IntKind.i64.wrap (bt v81 (4 : Int))))) - (1 : Int))))))))))) + (2 : Int)))))
       ))))
      )))
     ) (fun v105 =>
      (.call (impl_ValidSheet_g (ByteArray.extract v81 (Int.toNat (5 : Int)) (Int.toNat (IntKind.i64.wrap ((IntKind.i64.wrap ((7 : Int) + (IntKind.i64.wrap (bt v81 (4 : Int))))) - (2 : Int))))) (IntKind.i64.wrap (bt v81 (IntKind.i64.wrap ((IntKind.i64.wrap ((7 : Int) + (IntKind.i64.wrap (bt v81 (4 : Int))))) - (2 : Int))))) (IntKind.i64.wrap (bt v81 (IntKind.i64.wrap ((IntKind.i64.wrap ((7 : Int) + (IntKind.i64.wrap (bt v81 (4 : Int))))) - (1 : Int))))) v105) fun v186 =>
      (.br (!v186) (
       .leaf (.inl ByteArray.empty)
      ) (
       (.call (impl_storeSheet_g (ByteArray.extract v81 (Int.toNat (5 : Int)) (Int.toNat (IntKind.i64.wrap ((IntKind.i64.wrap ((7 : Int) + (IntKind.i64.wrap (bt v81 (4 : Int))))) - (2 : Int))))) (IntKind.i64.wrap (bt v81 (IntKind.i64.wrap ((IntKind.i64.wrap ((7 : Int) + (IntKind.i64.wrap (bt v81 (4 : Int))))) - (2 : Int))))) (IntKind.i64.wrap (bt v81 (IntKind.i64.wrap ((IntKind.i64.wrap ((7 : Int) + (IntKind.i64.wrap (bt v81 (4 : Int))))) - (1 : Int))))) v105) fun v187 =>
       (.grd (sok (0 : Int) (IntKind.i64.wrap ((IntKind.i64.wrap ((IntKind.i64.wrap ((7 : Int) + (IntKind.i64.wrap (bt v81 (4 : Int))))) + (IntKind.i64.wrap ((4 : Int) * (IntKind.i64.wrap ((IntKind.i64.wrap (bt v81 (IntKind.i64.wrap ((IntKind.i64.wrap ((7 : Int) + (IntKind.i64.wrap (bt v81 (4 : Int))))) - (2 : Int))))) * (IntKind.i64.wrap (bt v81 (IntKind.i64.wrap ((IntKind.i64.wrap ((7 : Int) + (IntKind.i64.wrap (bt v81 (4 : Int))))) - (1 : Int))))))))))) + (2 : Int))) v81.size) <|
       (.br (!(v187.toList == (ByteArray.extract v81 (Int.toNat (0 : Int)) (Int.toNat (IntKind.i64.wrap ((IntKind.i64.wrap ((IntKind.i64.wrap ((7 : Int) + (IntKind.i64.wrap (bt v81 (4 : Int))))) + (IntKind.i64.wrap ((4 : Int) * (IntKind.i64.wrap ((IntKind.i64.wrap (bt v81 (IntKind.i64.wrap ((IntKind.i64.wrap ((7 : Int) + (IntKind.i64.wrap (bt v81 (4 : Int))))) - (2 : Int))))) * (IntKind.i64.wrap (bt v81 (IntKind.i64.wrap ((IntKind.i64.wrap ((7 : Int) + (IntKind.i64.wrap (bt v81 (4 : Int))))) - (1 : Int))))))))))) + (2 : Int))))).toList)) (
        .leaf (.inl ByteArray.empty)
       ) (
        .leaf (.inr (.inr (ByteArray.extract v81 (Int.toNat (5 : Int)) (Int.toNat (IntKind.i64.wrap ((IntKind.i64.wrap ((7 : Int) + (IntKind.i64.wrap (bt v81 (4 : Int))))) - (2 : Int)))), IntKind.i64.wrap (bt v81 (IntKind.i64.wrap ((IntKind.i64.wrap ((7 : Int) + (IntKind.i64.wrap (bt v81 (4 : Int))))) - (2 : Int)))), IntKind.i64.wrap (bt v81 (IntKind.i64.wrap ((IntKind.i64.wrap ((7 : Int) + (IntKind.i64.wrap (bt v81 (4 : Int))))) - (1 : Int)))), IntKind.i64.wrap ((IntKind.i64.wrap ((IntKind.i64.wrap ((7 : Int) + (IntKind.i64.wrap (bt v81 (4 : Int))))) + (IntKind.i64.wrap ((4 : Int) * (IntKind.i64.wrap ((IntKind.i64.wrap (bt v81 (IntKind.i64.wrap ((IntKind.i64.wrap ((7 : Int) + (IntKind.i64.wrap (bt v81 (4 : Int))))) - (2 : Int))))) * (IntKind.i64.wrap (bt v81 (IntKind.i64.wrap ((IntKind.i64.wrap ((7 : Int) + (IntKind.i64.wrap (bt v81 (4 : Int))))) - (1 : Int))))))))))) + (2 : Int)), v105)))
       ))))
      )))
     ))))
    ))))))
   )))
  ))

noncomputable def impl_loadSheet_g (v81 : ByteArray) : Option ((ByteArray) ⊕ ((ByteArray × Int × Int × Int) ⊕ (ByteArray × Int × Int × Int × (List Nat)))) := (impl_loadSheet_T v81).run
def impl_loadSheet_enc (v81 : ByteArray) (y : (ByteArray) ⊕ ((ByteArray × Int × Int × Int) ⊕ (ByteArray × Int × Int × Int × (List Nat)))) : Rs := (match y with | .inl y => (.tup [.agg [.str y, .int .i64 (0 : Int), .int .i64 (0 : Int), .nilslc], .int .i64 (0 : Int), .lit false], []) | .inr y => (match y with | .inl y => (.tup [.agg [.str y.1, .int .i64 y.2.1, .int .i64 y.2.2.1, .nilslc], .int .i64 y.2.2.2, .lit true], []) | .inr y => (.tup [.agg [.str y.1, .int .i64 y.2.1, .int .i64 y.2.2.1, .own 0 0 ((y.2.2.2.2).length)], .int .i64 y.2.2.2.1, .lit true], [.row (.f32 y.2.2.2.2) 0])))
theorem impl_loadSheet_den (v81 : ByteArray) : (den TT (tabD impl_loadSheet_tab) (tabM impl_loadSheet_tab) (impl_loadSheet_LO v81) (codeOf Try.f40) ([.str v81] ++ List.replicate (Try.f40.ntmps - ([.str v81] : List DV).length) .undef) []).bind (retD TT Try.f40.results.toList 0) = (impl_loadSheet_T v81).bind fun y => .leaf (impl_loadSheet_enc v81 y) := by kernel_rfl
theorem impl_loadSheet_fn (v81 : ByteArray) (F : Fr) (hm : F.ids.length = 0) (h0 : St F [] F.H0) (hA : DVs.Ok F [] [.str v81]) {y : (ByteArray) ⊕ ((ByteArray × Int × Int × Int) ⊕ (ByteArray × Int × Int × Int × (List Nat)))} (hy : impl_loadSheet_g v81 = some y) : ∃ H', FnOk Try.prog 40 (DVs.av F [.str v81]) F.H0 ((impl_loadSheet_enc v81 y).1.av F) H' ∧ St F (impl_loadSheet_enc v81 y).2 H' ∧ (impl_loadSheet_enc v81 y).1.Ok F (impl_loadSheet_enc v81 y).2 :=
  fn_fin tok impl_loadSheet_hO mixed Try.func40 Try.call40 (by kernel_rfl) (LoopsOk_eq (l := [(0, bodyOf Try.f40 0)]) (by kernel_rfl) ⟨impl_loadSheet_l0_ok v81, trivial⟩) (impl_loadSheet_den v81) hy hm h0 hA
noncomputable def impl_loadSheet_F : DFn := fun args L =>
  match args with
  | [.str v81] =>
    .call (impl_loadSheet_g v81) fun y => .sum y (fun y0 => .leaf (.tup [.agg [.str y0, .int .i64 (0 : Int), .int .i64 (0 : Int), .nilslc], .int .i64 (0 : Int), .lit false], L)) (fun z0 => .sum z0 (fun y1 => .leaf (.tup [.agg [.str y1.1, .int .i64 y1.2.1, .int .i64 y1.2.2.1, .nilslc], .int .i64 y1.2.2.2, .lit true], L)) (fun z1 => .leaf (.tup [.agg [.str z1.1, .int .i64 z1.2.1, .int .i64 z1.2.2.1, .own (L.length + 0) 0 ((z1.2.2.2.2).length)], .int .i64 z1.2.2.2.1, .lit true], L ++ [.row (.f32 z1.2.2.2.2) 0])))
  | _ => .fail
theorem impl_loadSheet_Fok : COk Try.prog 40 impl_loadSheet_F true := by
  intro F L H args r L' hs ha hr
  unfold impl_loadSheet_F at hr
  split at hr
  · rename_i v81
    simp only [Tree.run] at hr
    obtain ⟨y, hy, hr⟩ := Option.bind_eq_some_iff.1 hr
    cases y with
    | inl y =>
      simp only [Tree.run, Option.some.injEq, Prod.mk.injEq] at hr
      obtain ⟨rfl, rfl⟩ := hr
      exact call_ok0 hs (fun k => (([] : List AV)[k]?).getD .top) [.str v81] [.str v81] (fun F' h0 hi hρ => ⟨by simp [DVs.av, DV.av, BR.av, hρ], impl_loadSheet_fn v81 F' (by rw [hi]; rfl) (st_nil hi) ⟨trivial, trivial⟩ hy⟩) rfl
    | inr y =>
      cases y with
      | inl y =>
        simp only [Tree.run, Option.some.injEq, Prod.mk.injEq] at hr
        obtain ⟨rfl, rfl⟩ := hr
        exact call_ok0 hs (fun k => (([] : List AV)[k]?).getD .top) [.str v81] [.str v81] (fun F' h0 hi hρ => ⟨by simp [DVs.av, DV.av, BR.av, hρ], impl_loadSheet_fn v81 F' (by rw [hi]; rfl) (st_nil hi) ⟨trivial, trivial⟩ hy⟩) rfl
      | inr y =>
        simp only [Tree.run, Option.some.injEq, Prod.mk.injEq] at hr
        obtain ⟨rfl, rfl⟩ := hr
        exact call_ok1 hs (fun k => (([] : List AV)[k]?).getD .top) [.str v81] [.str v81] (fun F' h0 hi hρ => ⟨by simp [DVs.av, DV.av, BR.av, hρ], impl_loadSheet_fn v81 F' (by rw [hi]; rfl) (st_nil hi) ⟨trivial, trivial⟩ hy⟩) rfl rfl
  · cases hr
/-! impl.LoadSheet -/
noncomputable def impl_LoadSheet_LO (v80 : ByteArray) : LOr := fun id e L =>
  match id with
  | _ => .fail
noncomputable def impl_LoadSheet_tab : List (FuncId × DFn × Bool) := [(40, impl_loadSheet_F, true)]
theorem impl_LoadSheet_hO : OrcOk Try.prog (tabD impl_LoadSheet_tab) (tabM impl_LoadSheet_tab) := tabD_cons impl_loadSheet_Fok (tabD_nil _)
noncomputable def impl_LoadSheet_T (v80 : ByteArray) : Tree ((ByteArray) ⊕ ((ByteArray × Int × Int) ⊕ (ByteArray × Int × Int × (List Nat)))) :=
  (.call (impl_loadSheet_g v80) fun v188 =>
  (.sum v188 (fun v189 =>
   .leaf (.inl ByteArray.empty)
  ) (fun v190 =>
   (.sum v190 (fun v191 =>
    (.br (!decide (v191.2.2.2 = ((v80.size : Nat) : Int))) (
     .leaf (.inl ByteArray.empty)
    ) (
     .leaf (.inr (.inl (v191.1, v191.2.1, v191.2.2.1)))
    ))
   ) (fun v192 =>
    (.br (!decide (v192.2.2.2.1 = ((v80.size : Nat) : Int))) (
     .leaf (.inl ByteArray.empty)
    ) (
     .leaf (.inr (.inr (v192.1, v192.2.1, v192.2.2.1, v192.2.2.2.2)))
    ))
   ))
  )))

noncomputable def impl_LoadSheet_g (v80 : ByteArray) : Option ((ByteArray) ⊕ ((ByteArray × Int × Int) ⊕ (ByteArray × Int × Int × (List Nat)))) := (impl_LoadSheet_T v80).run
def impl_LoadSheet_enc (v80 : ByteArray) (y : (ByteArray) ⊕ ((ByteArray × Int × Int) ⊕ (ByteArray × Int × Int × (List Nat)))) : Rs := (match y with | .inl y => (.tup [.agg [.str y, .int .i64 (0 : Int), .int .i64 (0 : Int), .nilslc], .lit false], []) | .inr y => (match y with | .inl y => (.tup [.agg [.str y.1, .int .i64 y.2.1, .int .i64 y.2.2, .nilslc], .lit true], []) | .inr y => (.tup [.agg [.str y.1, .int .i64 y.2.1, .int .i64 y.2.2.1, .own 0 0 ((y.2.2.2).length)], .lit true], [.row (.f32 y.2.2.2) 0])))
theorem impl_LoadSheet_den (v80 : ByteArray) : (den TT (tabD impl_LoadSheet_tab) (tabM impl_LoadSheet_tab) (impl_LoadSheet_LO v80) (codeOf Try.f15) ([.str v80] ++ List.replicate (Try.f15.ntmps - ([.str v80] : List DV).length) .undef) []).bind (retD TT Try.f15.results.toList 0) = (impl_LoadSheet_T v80).bind fun y => .leaf (impl_LoadSheet_enc v80 y) := by kernel_rfl
theorem impl_LoadSheet_fn (v80 : ByteArray) (F : Fr) (hm : F.ids.length = 0) (h0 : St F [] F.H0) (hA : DVs.Ok F [] [.str v80]) {y : (ByteArray) ⊕ ((ByteArray × Int × Int) ⊕ (ByteArray × Int × Int × (List Nat)))} (hy : impl_LoadSheet_g v80 = some y) : ∃ H', FnOk Try.prog 15 (DVs.av F [.str v80]) F.H0 ((impl_LoadSheet_enc v80 y).1.av F) H' ∧ St F (impl_LoadSheet_enc v80 y).2 H' ∧ (impl_LoadSheet_enc v80 y).1.Ok F (impl_LoadSheet_enc v80 y).2 :=
  fn_fin tok impl_LoadSheet_hO mixed Try.func15 Try.call15 (by kernel_rfl) (LoopsOk_eq (l := []) (by kernel_rfl) trivial) (impl_LoadSheet_den v80) hy hm h0 hA
noncomputable def impl_LoadSheet_F : DFn := fun args L =>
  match args with
  | [.str v80] =>
    .call (impl_LoadSheet_g v80) fun y => .sum y (fun y0 => .leaf (.tup [.agg [.str y0, .int .i64 (0 : Int), .int .i64 (0 : Int), .nilslc], .lit false], L)) (fun z0 => .sum z0 (fun y1 => .leaf (.tup [.agg [.str y1.1, .int .i64 y1.2.1, .int .i64 y1.2.2, .nilslc], .lit true], L)) (fun z1 => .leaf (.tup [.agg [.str z1.1, .int .i64 z1.2.1, .int .i64 z1.2.2.1, .own (L.length + 0) 0 ((z1.2.2.2).length)], .lit true], L ++ [.row (.f32 z1.2.2.2) 0])))
  | _ => .fail
theorem impl_LoadSheet_Fok : COk Try.prog 15 impl_LoadSheet_F true := by
  intro F L H args r L' hs ha hr
  unfold impl_LoadSheet_F at hr
  split at hr
  · rename_i v80
    simp only [Tree.run] at hr
    obtain ⟨y, hy, hr⟩ := Option.bind_eq_some_iff.1 hr
    cases y with
    | inl y =>
      simp only [Tree.run, Option.some.injEq, Prod.mk.injEq] at hr
      obtain ⟨rfl, rfl⟩ := hr
      exact call_ok0 hs (fun k => (([] : List AV)[k]?).getD .top) [.str v80] [.str v80] (fun F' h0 hi hρ => ⟨by simp [DVs.av, DV.av, BR.av, hρ], impl_LoadSheet_fn v80 F' (by rw [hi]; rfl) (st_nil hi) ⟨trivial, trivial⟩ hy⟩) rfl
    | inr y =>
      cases y with
      | inl y =>
        simp only [Tree.run, Option.some.injEq, Prod.mk.injEq] at hr
        obtain ⟨rfl, rfl⟩ := hr
        exact call_ok0 hs (fun k => (([] : List AV)[k]?).getD .top) [.str v80] [.str v80] (fun F' h0 hi hρ => ⟨by simp [DVs.av, DV.av, BR.av, hρ], impl_LoadSheet_fn v80 F' (by rw [hi]; rfl) (st_nil hi) ⟨trivial, trivial⟩ hy⟩) rfl
      | inr y =>
        simp only [Tree.run, Option.some.injEq, Prod.mk.injEq] at hr
        obtain ⟨rfl, rfl⟩ := hr
        exact call_ok1 hs (fun k => (([] : List AV)[k]?).getD .top) [.str v80] [.str v80] (fun F' h0 hi hρ => ⟨by simp [DVs.av, DV.av, BR.av, hρ], impl_LoadSheet_fn v80 F' (by rw [hi]; rfl) (st_nil hi) ⟨trivial, trivial⟩ hy⟩) rfl rfl
  · cases hr
/-! laws.sameFloat -/
noncomputable def laws_sameFloat_LO (v213 : Nat) (v214 : Nat) : LOr := fun id e L =>
  match id with
  | _ => .fail
noncomputable def laws_sameFloat_tab : List (FuncId × DFn × Bool) := []
theorem laws_sameFloat_hO : OrcOk Try.prog (tabD laws_sameFloat_tab) (tabM laws_sameFloat_tab) := tabD_nil _
noncomputable def laws_sameFloat_T (v213 : Nat) (v214 : Nat) : Tree (Bool) :=
  (.br (!feq .f64 v213 v213) (
   (.br (!feq .f64 v213 v213) (
    .leaf (!feq .f64 v214 v214)
   ) (
    .leaf false
   ))
  ) (
   (.br (!feq .f64 v214 v214) (
    (.br (!feq .f64 v213 v213) (
     .leaf (!feq .f64 v214 v214)
    ) (
     .leaf false
    ))
   ) (
    (.br (feq .f64 v213 (0 : Nat)) (
     (.br (feq .f64 v214 (0 : Nat)) (
      .leaf ((fgrt .f64 (fdiv .f64 (4607182418800017408 : Nat) v213) (0 : Nat)) == (fgrt .f64 (fdiv .f64 (4607182418800017408 : Nat) v214) (0 : Nat)))
     ) (
      .leaf (feq .f64 v213 v214)
     ))
    ) (
     .leaf (feq .f64 v213 v214)
    ))
   ))
  ))

noncomputable def laws_sameFloat_g (v213 : Nat) (v214 : Nat) : Option (Bool) := (laws_sameFloat_T v213 v214).run
def laws_sameFloat_enc (v213 : Nat) (v214 : Nat) (y : Bool) : Rs := (.bool y, [])
theorem laws_sameFloat_den (v213 : Nat) (v214 : Nat) : (den TT (tabD laws_sameFloat_tab) (tabM laws_sameFloat_tab) (laws_sameFloat_LO v213 v214) (codeOf Try.f85) ([.flt .f64 v213, .flt .f64 v214] ++ List.replicate (Try.f85.ntmps - ([.flt .f64 v213, .flt .f64 v214] : List DV).length) .undef) []).bind (retD TT Try.f85.results.toList 0) = (laws_sameFloat_T v213 v214).bind fun y => .leaf (laws_sameFloat_enc v213 v214 y) := by kernel_rfl
theorem laws_sameFloat_fn (v213 : Nat) (v214 : Nat) (F : Fr) (hm : F.ids.length = 0) (h0 : St F [] F.H0) (hA : DVs.Ok F [] [.flt .f64 v213, .flt .f64 v214]) {y : Bool} (hy : laws_sameFloat_g v213 v214 = some y) : ∃ H', FnOk Try.prog 85 (DVs.av F [.flt .f64 v213, .flt .f64 v214]) F.H0 ((laws_sameFloat_enc v213 v214 y).1.av F) H' ∧ St F (laws_sameFloat_enc v213 v214 y).2 H' ∧ (laws_sameFloat_enc v213 v214 y).1.Ok F (laws_sameFloat_enc v213 v214 y).2 :=
  fn_fin tok laws_sameFloat_hO mixed Try.func85 Try.call85 (by kernel_rfl) (LoopsOk_eq (l := []) (by kernel_rfl) trivial) (laws_sameFloat_den v213 v214) hy hm h0 hA
def laws_sameFloat_v (v213 : Nat) (v214 : Nat) : Bool :=
  if (!feq .f64 v213 v213) = true then (
   if (!feq .f64 v213 v213) = true then (
    !feq .f64 v214 v214
   ) else (
    false
   )
  ) else (
   if (!feq .f64 v214 v214) = true then (
    if (!feq .f64 v213 v213) = true then (
     !feq .f64 v214 v214
    ) else (
     false
    )
   ) else (
    if (feq .f64 v213 (0 : Nat)) = true then (
     if (feq .f64 v214 (0 : Nat)) = true then (
      (fgrt .f64 (fdiv .f64 (4607182418800017408 : Nat) v213) (0 : Nat)) == (fgrt .f64 (fdiv .f64 (4607182418800017408 : Nat) v214) (0 : Nat))
     ) else (
      feq .f64 v213 v214
     )
    ) else (
     feq .f64 v213 v214
    )
   )
  )
theorem laws_sameFloat_tot (v213 : Nat) (v214 : Nat) : laws_sameFloat_g v213 v214 = some (laws_sameFloat_v v213 v214) := by
  unfold laws_sameFloat_g laws_sameFloat_T laws_sameFloat_v
  simp only [Tree.run]
  repeat' (first | rfl | split)
noncomputable def laws_sameFloat_F : DFn := fun args L =>
  match args with
  | [.flt .f64 v213, .flt .f64 v214] =>
    .leaf (.bool (laws_sameFloat_v v213 v214), L)
  | _ => .fail
theorem laws_sameFloat_Fok : COk Try.prog 85 laws_sameFloat_F true := by
  intro F L H args r L' hs ha hr
  unfold laws_sameFloat_F at hr
  split at hr
  · rename_i v213 v214
    have hy := laws_sameFloat_tot v213 v214
    generalize laws_sameFloat_v v213 v214 = y at hy hr
    simp only [Tree.run, Option.some.injEq, Prod.mk.injEq] at hr
    obtain ⟨rfl, rfl⟩ := hr
    exact call_ok0 hs (fun k => (([] : List AV)[k]?).getD .top) [.flt .f64 v213, .flt .f64 v214] [.flt .f64 v213, .flt .f64 v214] (fun F' h0 hi hρ => ⟨by simp [DVs.av, DV.av, BR.av, hρ], laws_sameFloat_fn v213 v214 F' (by rw [hi]; rfl) (st_nil hi) ⟨trivial, trivial, trivial⟩ hy⟩) rfl
  · cases hr
/-! laws.eqFloat32S -/
noncomputable def laws_eqFloat32S_l0_T (v210 : List Nat) (v211 : List Nat) (s : Int) : Tree ((Int) ⊕ ((Unit) ⊕ (Unit))) :=
  (.br (decide (s < ((v210.length : Nat) : Int))) (
   (.grd (inb s v210.length) <|
   (.grd (inb s v211.length) <|
   (.br (!(laws_sameFloat_v (wid (nth v210 (Int.toNat s))) (wid (nth v211 (Int.toNat s))))) (
    .leaf (.inr (.inl ()))
   ) (
    .leaf (.inl (IntKind.i64.wrap (s + (1 : Int))))
   ))))
  ) (
   .leaf (.inr (.inr ()))
  ))

noncomputable def laws_eqFloat32S_l0_g (v210 : List Nat) (v211 : List Nat) (s0 : Int) : Option ((Unit) ⊕ (Unit)) := whileM (fun s => (laws_eqFloat32S_l0_T v210 v211 s).run) s0
def laws_eqFloat32S_l0_E (v210 : List Nat) (v211 : List Nat) (s : Int) : Sd := ([.bslc (BR.root 0) (.f32 v210), .bslc (BR.root 1) (.f32 v211), .top, .top, .top, .int .i64 s, .top, .top, .top, .top, .top, .top, .top, .top, .top, .top, .top, .top, .top, .top, .top, .top, .top, .top, .top, .top, .top, .top, .top], [])
def laws_eqFloat32S_l0_X (v210 : List Nat) (v211 : List Nat) (x : (Unit) ⊕ (Unit)) : Out := (match x with | .inl x => (.ret, [.top, .top, .top, .top, .lit false, .top, .top, .top, .top, .top, .top, .top, .top, .top, .top, .top, .top, .top, .top, .top, .top, .top, .top, .top, .top, .top, .top, .top, .top], []) | .inr x => (.normal, [.top, .top, .top, .top, .top, .top, .top, .top, .top, .top, .top, .top, .top, .top, .top, .top, .top, .top, .top, .top, .top, .top, .top, .top, .top, .top, .top, .top, .top], []))
def laws_eqFloat32S_l0_kill : List Nat := [0, 0, 1, 1, 1, 0, 1, 1, 1, 1, 1, 1, 1, 1, 1, 1, 1, 1, 1, 1, 1, 1, 1, 1, 1, 1, 1, 1, 1]
def laws_eqFloat32S_l0_nx : Exit → List Nat
  | .exit 0 => [1, 1, 1, 1, 1, 1, 1, 1, 1, 1, 1, 1, 1, 1, 1, 1, 1, 1, 1, 1, 1, 1, 1, 1, 1, 1, 1, 1, 1]
  | .ret => [1, 1, 1, 1, 0, 1, 1, 1, 1, 1, 1, 1, 1, 1, 1, 1, 1, 1, 1, 1, 1, 1, 1, 1, 1, 1, 1, 1, 1]
  | _ => []
noncomputable def laws_eqFloat32S_LO (v210 : List Nat) (v211 : List Nat) : LOr := fun id e L =>
  match id with
  | 0 => .need (normA 0 laws_eqFloat32S_l0_kill e L = some (laws_eqFloat32S_l0_E v210 v211 (gI (vAt e 5)))) (.call (laws_eqFloat32S_l0_g v210 v211 (gI (vAt e 5))) fun x => .sum x (fun b0 => .leaf (laws_eqFloat32S_l0_X v210 v211 (.inl b0))) (fun c0 => .leaf (laws_eqFloat32S_l0_X v210 v211 (.inr c0))))
  | _ => .fail
noncomputable def laws_eqFloat32S_tab : List (FuncId × DFn × Bool) := [(85, laws_sameFloat_F, true)]
theorem laws_eqFloat32S_hO : OrcOk Try.prog (tabD laws_eqFloat32S_tab) (tabM laws_eqFloat32S_tab) := tabD_cons laws_sameFloat_Fok (tabD_nil _)
theorem laws_eqFloat32S_l0_be (v210 : List Nat) (v211 : List Nat) (s : Int) : bodyT TT (tabD laws_eqFloat32S_tab) (tabM laws_eqFloat32S_tab) (laws_eqFloat32S_LO v210 v211) 0 laws_eqFloat32S_l0_kill laws_eqFloat32S_l0_nx (bodyOf Try.f68 0) 0 (laws_eqFloat32S_l0_E v210 v211 s) = (laws_eqFloat32S_l0_T v210 v211 s).bind fun y => .leaf (outS (laws_eqFloat32S_l0_E v210 v211) (laws_eqFloat32S_l0_X v210 v211) y) := by kernel_rfl
theorem laws_eqFloat32S_l0_ok (v210 : List Nat) (v211 : List Nat) : LSound Try.prog 0 (laws_eqFloat32S_LO v210 v211) 0 (bodyOf Try.f68 0) := by
  intro e L out h
  exact lo_ok (E := laws_eqFloat32S_l0_E v210 v211) (gT := laws_eqFloat32S_l0_T v210 v211) (X := laws_eqFloat32S_l0_X v210 v211) (s0 := (gI (vAt e 5))) tok laws_eqFloat32S_hO mixed (LoopsOk_eq (l := []) (by kernel_rfl) trivial) (laws_eqFloat32S_l0_be v210 v211) rfl (by intro x; (cases x with | inl b => rfl | inr x => exact rfl)) h
noncomputable def laws_eqFloat32S_T (v210 : List Nat) (v211 : List Nat) : Tree (Bool) :=
  (.br (!decide (((v210.length : Nat) : Int) = ((v211.length : Nat) : Int))) (
   .leaf false
  ) (
   (.need (some (laws_eqFloat32S_l0_E v210 v211 (0 : Int)) = some (laws_eqFloat32S_l0_E v210 v211 (0 : Int))) <|
   (.call (laws_eqFloat32S_l0_g v210 v211 (0 : Int)) fun v217 =>
   (.sum v217 (fun v218 =>
    .leaf false
   ) (fun v219 =>
    .leaf true
   ))))
  ))

noncomputable def laws_eqFloat32S_g (v210 : List Nat) (v211 : List Nat) : Option (Bool) := (laws_eqFloat32S_T v210 v211).run
def laws_eqFloat32S_enc (v210 : List Nat) (v211 : List Nat) (y : Bool) : Rs := (.bool y, [])
theorem laws_eqFloat32S_den (v210 : List Nat) (v211 : List Nat) : (den TT (tabD laws_eqFloat32S_tab) (tabM laws_eqFloat32S_tab) (laws_eqFloat32S_LO v210 v211) (codeOf Try.f68) ([.bslc (BR.root 0) (.f32 v210), .bslc (BR.root 1) (.f32 v211)] ++ List.replicate (Try.f68.ntmps - ([.bslc (BR.root 0) (.f32 v210), .bslc (BR.root 1) (.f32 v211)] : List DV).length) .undef) []).bind (retD TT Try.f68.results.toList 0) = (laws_eqFloat32S_T v210 v211).bind fun y => .leaf (laws_eqFloat32S_enc v210 v211 y) := by kernel_rfl
theorem laws_eqFloat32S_fn (v210 : List Nat) (v211 : List Nat) (F : Fr) (hm : F.ids.length = 0) (h0 : St F [] F.H0) (hA : DVs.Ok F [] [.bslc (BR.root 0) (.f32 v210), .bslc (BR.root 1) (.f32 v211)]) {y : Bool} (hy : laws_eqFloat32S_g v210 v211 = some y) : ∃ H', FnOk Try.prog 68 (DVs.av F [.bslc (BR.root 0) (.f32 v210), .bslc (BR.root 1) (.f32 v211)]) F.H0 ((laws_eqFloat32S_enc v210 v211 y).1.av F) H' ∧ St F (laws_eqFloat32S_enc v210 v211 y).2 H' ∧ (laws_eqFloat32S_enc v210 v211 y).1.Ok F (laws_eqFloat32S_enc v210 v211 y).2 :=
  fn_fin tok laws_eqFloat32S_hO mixed Try.func68 Try.call68 (by kernel_rfl) (LoopsOk_eq (l := [(0, bodyOf Try.f68 0)]) (by kernel_rfl) ⟨laws_eqFloat32S_l0_ok v210 v211, trivial⟩) (laws_eqFloat32S_den v210 v211) hy hm h0 hA
noncomputable def laws_eqFloat32S_F : DFn := fun args L =>
  match args with
  | [a1, a2] =>
    optT (rowF32 L a1) fun v210 =>
    optT (rowF32 L a2) fun v211 =>
    .call (laws_eqFloat32S_g v210 v211) fun y => .leaf (.bool y, L)
  | _ => .fail
theorem laws_eqFloat32S_Fok : COk Try.prog 68 laws_eqFloat32S_F true := by
  intro F L H args r L' hs ha hr
  unfold laws_eqFloat32S_F at hr
  split at hr
  · rename_i a1 a2
    obtain ⟨v210, hv210, hr⟩ := optT_run hr
    obtain ⟨v211, hv211, hr⟩ := optT_run hr
    simp only [Tree.run] at hr
    obtain ⟨y, hy, hr⟩ := Option.bind_eq_some_iff.1 hr
    simp only [Tree.run, Option.some.injEq, Prod.mk.injEq] at hr
    obtain ⟨rfl, rfl⟩ := hr
    exact call_ok0 hs (fun k => (([a1.av F, a2.av F] : List AV)[k]?).getD .top) [a1, a2] [.bslc (BR.root 0) (.f32 v210), .bslc (BR.root 1) (.f32 v211)] (fun F' h0 hi hρ => ⟨by simp [DVs.av, DV.av, BR.av, hρ], laws_eqFloat32S_fn v210 v211 F' (by rw [hi]; rfl) (st_nil hi) ⟨bslc_ok hi (by rw [h0, hρ]; exact rowF32_ok hs (DVs.okAt ha 0 rfl) hv210), bslc_ok hi (by rw [h0, hρ]; exact rowF32_ok hs (DVs.okAt ha 1 rfl) hv211), trivial⟩ hy⟩) rfl
  · cases hr
/-! laws.eqMatrix -/
noncomputable def laws_eqMatrix_LO (v204 : Int) (v205 : Int) (v206 : List Nat) (v207 : Int) (v208 : Int) (v209 : List Nat) : LOr := fun id e L =>
  match id with
  | _ => .fail
noncomputable def laws_eqMatrix_tab : List (FuncId × DFn × Bool) := [(68, laws_eqFloat32S_F, true)]
theorem laws_eqMatrix_hO : OrcOk Try.prog (tabD laws_eqMatrix_tab) (tabM laws_eqMatrix_tab) := tabD_cons laws_eqFloat32S_Fok (tabD_nil _)
noncomputable def laws_eqMatrix_T (v204 : Int) (v205 : Int) (v206 : List Nat) (v207 : Int) (v208 : Int) (v209 : List Nat) : Tree (Bool) :=
  (.br (!decide (v204 = v207)) (
   .leaf false
  ) (
   (.br (!decide (v205 = v208)) (
    .leaf false
   ) (
    (.call (laws_eqFloat32S_g v206 v209) fun v220 =>
    (.br (!v220) (
     .leaf false
    ) (
     .leaf true
    )))
   ))
  ))

noncomputable def laws_eqMatrix_g (v204 : Int) (v205 : Int) (v206 : List Nat) (v207 : Int) (v208 : Int) (v209 : List Nat) : Option (Bool) := (laws_eqMatrix_T v204 v205 v206 v207 v208 v209).run
def laws_eqMatrix_enc (v204 : Int) (v205 : Int) (v206 : List Nat) (v207 : Int) (v208 : Int) (v209 : List Nat) (y : Bool) : Rs := (.bool y, [])
theorem laws_eqMatrix_den (v204 : Int) (v205 : Int) (v206 : List Nat) (v207 : Int) (v208 : Int) (v209 : List Nat) : (den TT (tabD laws_eqMatrix_tab) (tabM laws_eqMatrix_tab) (laws_eqMatrix_LO v204 v205 v206 v207 v208 v209) (codeOf Try.f38) ([.agg [.int .i64 v204, .int .i64 v205, .bslc (BR.root 0) (.f32 v206)], .agg [.int .i64 v207, .int .i64 v208, .bslc (BR.root 1) (.f32 v209)]] ++ List.replicate (Try.f38.ntmps - ([.agg [.int .i64 v204, .int .i64 v205, .bslc (BR.root 0) (.f32 v206)], .agg [.int .i64 v207, .int .i64 v208, .bslc (BR.root 1) (.f32 v209)]] : List DV).length) .undef) []).bind (retD TT Try.f38.results.toList 0) = (laws_eqMatrix_T v204 v205 v206 v207 v208 v209).bind fun y => .leaf (laws_eqMatrix_enc v204 v205 v206 v207 v208 v209 y) := by kernel_rfl
theorem laws_eqMatrix_fn (v204 : Int) (v205 : Int) (v206 : List Nat) (v207 : Int) (v208 : Int) (v209 : List Nat) (F : Fr) (hm : F.ids.length = 0) (h0 : St F [] F.H0) (hA : DVs.Ok F [] [.agg [.int .i64 v204, .int .i64 v205, .bslc (BR.root 0) (.f32 v206)], .agg [.int .i64 v207, .int .i64 v208, .bslc (BR.root 1) (.f32 v209)]]) {y : Bool} (hy : laws_eqMatrix_g v204 v205 v206 v207 v208 v209 = some y) : ∃ H', FnOk Try.prog 38 (DVs.av F [.agg [.int .i64 v204, .int .i64 v205, .bslc (BR.root 0) (.f32 v206)], .agg [.int .i64 v207, .int .i64 v208, .bslc (BR.root 1) (.f32 v209)]]) F.H0 ((laws_eqMatrix_enc v204 v205 v206 v207 v208 v209 y).1.av F) H' ∧ St F (laws_eqMatrix_enc v204 v205 v206 v207 v208 v209 y).2 H' ∧ (laws_eqMatrix_enc v204 v205 v206 v207 v208 v209 y).1.Ok F (laws_eqMatrix_enc v204 v205 v206 v207 v208 v209 y).2 :=
  fn_fin tok laws_eqMatrix_hO mixed Try.func38 Try.call38 (by kernel_rfl) (LoopsOk_eq (l := []) (by kernel_rfl) trivial) (laws_eqMatrix_den v204 v205 v206 v207 v208 v209) hy hm h0 hA
noncomputable def laws_eqMatrix_F : DFn := fun args L =>
  match args with
  | [.agg [.int .i64 v204, .int .i64 v205, a1], .agg [.int .i64 v207, .int .i64 v208, a2]] =>
    optT (rowF32 L a1) fun v206 =>
    optT (rowF32 L a2) fun v209 =>
    .call (laws_eqMatrix_g v204 v205 v206 v207 v208 v209) fun y => .leaf (.bool y, L)
  | _ => .fail
theorem laws_eqMatrix_Fok : COk Try.prog 38 laws_eqMatrix_F true := by
  intro F L H args r L' hs ha hr
  unfold laws_eqMatrix_F at hr
  split at hr
  · rename_i v204 v205 a1 v207 v208 a2
    obtain ⟨v206, hv206, hr⟩ := optT_run hr
    obtain ⟨v209, hv209, hr⟩ := optT_run hr
    simp only [Tree.run] at hr
    obtain ⟨y, hy, hr⟩ := Option.bind_eq_some_iff.1 hr
    simp only [Tree.run, Option.some.injEq, Prod.mk.injEq] at hr
    obtain ⟨rfl, rfl⟩ := hr
    exact call_ok0 hs (fun k => (([a1.av F, a2.av F] : List AV)[k]?).getD .top) [.agg [.int .i64 v204, .int .i64 v205, a1], .agg [.int .i64 v207, .int .i64 v208, a2]] [.agg [.int .i64 v204, .int .i64 v205, .bslc (BR.root 0) (.f32 v206)], .agg [.int .i64 v207, .int .i64 v208, .bslc (BR.root 1) (.f32 v209)]] (fun F' h0 hi hρ => ⟨by simp [DVs.av, DV.av, BR.av, hρ], laws_eqMatrix_fn v204 v205 v206 v207 v208 v209 F' (by rw [hi]; rfl) (st_nil hi) ⟨⟨trivial, trivial, bslc_ok hi (by rw [h0, hρ]; exact rowF32_ok hs (DVs.okAt (DVs.okAt ha 0 rfl) 2 rfl) hv206), trivial⟩, ⟨trivial, trivial, bslc_ok hi (by rw [h0, hρ]; exact rowF32_ok hs (DVs.okAt (DVs.okAt ha 1 rfl) 2 rfl) hv209), trivial⟩, trivial⟩ hy⟩) rfl
  · cases hr
/-! laws.eqSheet -/
noncomputable def laws_eqSheet_LO (v196 : ByteArray) (v197 : Int) (v198 : Int) (v199 : List Nat) (v200 : ByteArray) (v201 : Int) (v202 : Int) (v203 : List Nat) : LOr := fun id e L =>
  match id with
  | _ => .fail
noncomputable def laws_eqSheet_tab : List (FuncId × DFn × Bool) := [(38, laws_eqMatrix_F, true)]
theorem laws_eqSheet_hO : OrcOk Try.prog (tabD laws_eqSheet_tab) (tabM laws_eqSheet_tab) := tabD_cons laws_eqMatrix_Fok (tabD_nil _)
noncomputable def laws_eqSheet_T (v196 : ByteArray) (v197 : Int) (v198 : Int) (v199 : List Nat) (v200 : ByteArray) (v201 : Int) (v202 : Int) (v203 : List Nat) : Tree (Bool) :=
  (.br (!(v196.toList == v200.toList)) (
   .leaf false
  ) (
   (.call (laws_eqMatrix_g v197 v198 v199 v201 v202 v203) fun v221 =>
   (.br (!v221) (
    .leaf false
   ) (
    .leaf true
   )))
  ))

noncomputable def laws_eqSheet_g (v196 : ByteArray) (v197 : Int) (v198 : Int) (v199 : List Nat) (v200 : ByteArray) (v201 : Int) (v202 : Int) (v203 : List Nat) : Option (Bool) := (laws_eqSheet_T v196 v197 v198 v199 v200 v201 v202 v203).run
def laws_eqSheet_enc (v196 : ByteArray) (v197 : Int) (v198 : Int) (v199 : List Nat) (v200 : ByteArray) (v201 : Int) (v202 : Int) (v203 : List Nat) (y : Bool) : Rs := (.bool y, [])
theorem laws_eqSheet_den (v196 : ByteArray) (v197 : Int) (v198 : Int) (v199 : List Nat) (v200 : ByteArray) (v201 : Int) (v202 : Int) (v203 : List Nat) : (den TT (tabD laws_eqSheet_tab) (tabM laws_eqSheet_tab) (laws_eqSheet_LO v196 v197 v198 v199 v200 v201 v202 v203) (codeOf Try.f13) ([.agg [.str v196, .int .i64 v197, .int .i64 v198, .bslc (BR.root 0) (.f32 v199)], .agg [.str v200, .int .i64 v201, .int .i64 v202, .bslc (BR.root 1) (.f32 v203)]] ++ List.replicate (Try.f13.ntmps - ([.agg [.str v196, .int .i64 v197, .int .i64 v198, .bslc (BR.root 0) (.f32 v199)], .agg [.str v200, .int .i64 v201, .int .i64 v202, .bslc (BR.root 1) (.f32 v203)]] : List DV).length) .undef) []).bind (retD TT Try.f13.results.toList 0) = (laws_eqSheet_T v196 v197 v198 v199 v200 v201 v202 v203).bind fun y => .leaf (laws_eqSheet_enc v196 v197 v198 v199 v200 v201 v202 v203 y) := by kernel_rfl
theorem laws_eqSheet_fn (v196 : ByteArray) (v197 : Int) (v198 : Int) (v199 : List Nat) (v200 : ByteArray) (v201 : Int) (v202 : Int) (v203 : List Nat) (F : Fr) (hm : F.ids.length = 0) (h0 : St F [] F.H0) (hA : DVs.Ok F [] [.agg [.str v196, .int .i64 v197, .int .i64 v198, .bslc (BR.root 0) (.f32 v199)], .agg [.str v200, .int .i64 v201, .int .i64 v202, .bslc (BR.root 1) (.f32 v203)]]) {y : Bool} (hy : laws_eqSheet_g v196 v197 v198 v199 v200 v201 v202 v203 = some y) : ∃ H', FnOk Try.prog 13 (DVs.av F [.agg [.str v196, .int .i64 v197, .int .i64 v198, .bslc (BR.root 0) (.f32 v199)], .agg [.str v200, .int .i64 v201, .int .i64 v202, .bslc (BR.root 1) (.f32 v203)]]) F.H0 ((laws_eqSheet_enc v196 v197 v198 v199 v200 v201 v202 v203 y).1.av F) H' ∧ St F (laws_eqSheet_enc v196 v197 v198 v199 v200 v201 v202 v203 y).2 H' ∧ (laws_eqSheet_enc v196 v197 v198 v199 v200 v201 v202 v203 y).1.Ok F (laws_eqSheet_enc v196 v197 v198 v199 v200 v201 v202 v203 y).2 :=
  fn_fin tok laws_eqSheet_hO mixed Try.func13 Try.call13 (by kernel_rfl) (LoopsOk_eq (l := []) (by kernel_rfl) trivial) (laws_eqSheet_den v196 v197 v198 v199 v200 v201 v202 v203) hy hm h0 hA
noncomputable def laws_eqSheet_F : DFn := fun args L =>
  match args with
  | [.agg [.str v196, .int .i64 v197, .int .i64 v198, a1], .agg [.str v200, .int .i64 v201, .int .i64 v202, a2]] =>
    optT (rowF32 L a1) fun v199 =>
    optT (rowF32 L a2) fun v203 =>
    .call (laws_eqSheet_g v196 v197 v198 v199 v200 v201 v202 v203) fun y => .leaf (.bool y, L)
  | _ => .fail
theorem laws_eqSheet_Fok : COk Try.prog 13 laws_eqSheet_F true := by
  intro F L H args r L' hs ha hr
  unfold laws_eqSheet_F at hr
  split at hr
  · rename_i v196 v197 v198 a1 v200 v201 v202 a2
    obtain ⟨v199, hv199, hr⟩ := optT_run hr
    obtain ⟨v203, hv203, hr⟩ := optT_run hr
    simp only [Tree.run] at hr
    obtain ⟨y, hy, hr⟩ := Option.bind_eq_some_iff.1 hr
    simp only [Tree.run, Option.some.injEq, Prod.mk.injEq] at hr
    obtain ⟨rfl, rfl⟩ := hr
    exact call_ok0 hs (fun k => (([a1.av F, a2.av F] : List AV)[k]?).getD .top) [.agg [.str v196, .int .i64 v197, .int .i64 v198, a1], .agg [.str v200, .int .i64 v201, .int .i64 v202, a2]] [.agg [.str v196, .int .i64 v197, .int .i64 v198, .bslc (BR.root 0) (.f32 v199)], .agg [.str v200, .int .i64 v201, .int .i64 v202, .bslc (BR.root 1) (.f32 v203)]] (fun F' h0 hi hρ => ⟨by simp [DVs.av, DV.av, BR.av, hρ], laws_eqSheet_fn v196 v197 v198 v199 v200 v201 v202 v203 F' (by rw [hi]; rfl) (st_nil hi) ⟨⟨trivial, trivial, trivial, bslc_ok hi (by rw [h0, hρ]; exact rowF32_ok hs (DVs.okAt (DVs.okAt ha 0 rfl) 3 rfl) hv199), trivial⟩, ⟨trivial, trivial, trivial, bslc_ok hi (by rw [h0, hρ]; exact rowF32_ok hs (DVs.okAt (DVs.okAt ha 1 rfl) 3 rfl) hv203), trivial⟩, trivial⟩ hy⟩) rfl
  · cases hr
/-! laws.markFloat32S -/
noncomputable def laws_markFloat32S_l0_T (s : Int × Int × (List Nat)) : Tree ((Int × Int × (List Nat)) ⊕ (Int × (List Nat))) :=
  (.br (decide (s.2.1 < (((s.2.2).length : Nat) : Int))) (
   (.grd (inb s.2.1 ((s.2.2).length)) <|
   .leaf (.inl (IntKind.i64.wrap (s.1 + (1 : Int)), IntKind.i64.wrap (s.2.1 + (1 : Int)), List.set s.2.2 (Int.toNat s.2.1) (fofint .f32 s.1))))
  ) (
   .leaf (.inr (s.1, s.2.2))
  ))

noncomputable def laws_markFloat32S_l0_g (s0 : Int × Int × (List Nat)) : Option (Int × (List Nat)) := whileM (fun s => (laws_markFloat32S_l0_T s).run) s0
def laws_markFloat32S_l0_E (v236 : List Nat) (v237 : Int) (s : Int × Int × (List Nat)) : Sd := ([.own 0 0 ((s.2.2).length), .int .i64 s.1, .top, .top, .top, .int .i64 s.2.1, .top, .top, .top, .top, .top, .top, .top, .top, .top, .top, .top, .top, .top, .top], [.row (.f32 s.2.2) 0])
def laws_markFloat32S_l0_X (v236 : List Nat) (v237 : Int) (x : Int × (List Nat)) : Out := (.normal, [.top, .int .i64 x.1, .top, .top, .top, .top, .top, .top, .top, .top, .top, .top, .top, .top, .top, .top, .top, .top, .top, .top], [.row (.f32 x.2) 0])
def laws_markFloat32S_l0_kill : List Nat := [0, 0, 1, 1, 1, 0, 1, 1, 1, 1, 1, 1, 1, 1, 1, 1, 1, 1, 1, 1]
def laws_markFloat32S_l0_nx : Exit → List Nat
  | .exit 0 => [1, 0, 1, 1, 1, 1, 1, 1, 1, 1, 1, 1, 1, 1, 1, 1, 1, 1, 1, 1]
  | .ret => [1, 1, 1, 1, 0, 1, 1, 1, 1, 1, 1, 1, 1, 1, 1, 1, 1, 1, 1, 1]
  | _ => []
noncomputable def laws_markFloat32S_LO (v236 : List Nat) (v237 : Int) : LOr := fun id e L =>
  match id with
  | 0 => .need (normA 1 laws_markFloat32S_l0_kill e L = some (laws_markFloat32S_l0_E v236 v237 ((gI (vAt e 1)), (gI (vAt e 5)), (gRF L (vAt e 0))))) (.call (laws_markFloat32S_l0_g ((gI (vAt e 1)), (gI (vAt e 5)), (gRF L (vAt e 0)))) fun x => .leaf (laws_markFloat32S_l0_X v236 v237 x))
  | _ => .fail
noncomputable def laws_markFloat32S_tab : List (FuncId × DFn × Bool) := []
theorem laws_markFloat32S_hO : OrcOk Try.prog (tabD laws_markFloat32S_tab) (tabM laws_markFloat32S_tab) := tabD_nil _
theorem laws_markFloat32S_l0_be (v236 : List Nat) (v237 : Int) (s : Int × Int × (List Nat)) : bodyT TT (tabD laws_markFloat32S_tab) (tabM laws_markFloat32S_tab) (laws_markFloat32S_LO v236 v237) 1 laws_markFloat32S_l0_kill laws_markFloat32S_l0_nx (bodyOf Try.f51 0) 0 (laws_markFloat32S_l0_E v236 v237 s) = (laws_markFloat32S_l0_T s).bind fun y => .leaf (outS (laws_markFloat32S_l0_E v236 v237) (laws_markFloat32S_l0_X v236 v237) y) := by kernel_rfl
theorem laws_markFloat32S_l0_ok (v236 : List Nat) (v237 : Int) : LSound Try.prog 1 (laws_markFloat32S_LO v236 v237) 0 (bodyOf Try.f51 0) := by
  intro e L out h
  exact lo_ok (E := laws_markFloat32S_l0_E v236 v237) (gT := laws_markFloat32S_l0_T) (X := laws_markFloat32S_l0_X v236 v237) (s0 := ((gI (vAt e 1)), (gI (vAt e 5)), (gRF L (vAt e 0)))) tok laws_markFloat32S_hO mixed (LoopsOk_eq (l := []) (by kernel_rfl) trivial) (laws_markFloat32S_l0_be v236 v237) rfl (by intro x; rfl) h
noncomputable def laws_markFloat32S_T (v236 : List Nat) (v237 : Int) : Tree (Int × (List Nat)) :=
  (.need (some (laws_markFloat32S_l0_E v236 v237 (v237, (0 : Int), v236)) = some (laws_markFloat32S_l0_E v236 v237 (v237, (0 : Int), v236))) <|
  (.call (laws_markFloat32S_l0_g (v237, (0 : Int), v236)) fun v246 =>
  .leaf (v246.1, v246.2)))

noncomputable def laws_markFloat32S_g (v236 : List Nat) (v237 : Int) : Option (Int × (List Nat)) := (laws_markFloat32S_T v236 v237).run
def laws_markFloat32S_enc (v236 : List Nat) (v237 : Int) (y : Int × (List Nat)) : Rs := (.int .i64 y.1, [.row (.f32 y.2) 0])
theorem laws_markFloat32S_den (v236 : List Nat) (v237 : Int) : (den TT (tabD laws_markFloat32S_tab) (tabM laws_markFloat32S_tab) (laws_markFloat32S_LO v236 v237) (codeOf Try.f51) ([.own 0 0 v236.length, .int .i64 v237] ++ List.replicate (Try.f51.ntmps - ([.own 0 0 v236.length, .int .i64 v237] : List DV).length) .undef) [.row (.f32 v236) 0]).bind (retD TT Try.f51.results.toList 1) = (laws_markFloat32S_T v236 v237).bind fun y => .leaf (laws_markFloat32S_enc v236 v237 y) := by kernel_rfl
theorem laws_markFloat32S_fn (v236 : List Nat) (v237 : Int) (F : Fr) (hm : F.ids.length = 1) (h0 : St F [.row (.f32 v236) 0] F.H0) (hA : DVs.Ok F [.row (.f32 v236) 0] [.own 0 0 v236.length, .int .i64 v237]) {y : Int × (List Nat)} (hy : laws_markFloat32S_g v236 v237 = some y) : ∃ H', FnOk Try.prog 51 (DVs.av F [.own 0 0 v236.length, .int .i64 v237]) F.H0 ((laws_markFloat32S_enc v236 v237 y).1.av F) H' ∧ St F (laws_markFloat32S_enc v236 v237 y).2 H' ∧ (laws_markFloat32S_enc v236 v237 y).1.Ok F (laws_markFloat32S_enc v236 v237 y).2 :=
  fn_fin tok laws_markFloat32S_hO mixed Try.func51 Try.call51 (by kernel_rfl) (LoopsOk_eq (l := [(0, bodyOf Try.f51 0)]) (by kernel_rfl) ⟨laws_markFloat32S_l0_ok v236 v237, trivial⟩) (laws_markFloat32S_den v236 v237) hy hm h0 hA
noncomputable def laws_markFloat32S_F : DFn := fun args L =>
  match args with
  | [a1, .int .i64 v237] =>
    optT (ownF32 L a1) fun qv236 =>
    (match sepB [qv236.1] [] with
    | true =>
    .call (laws_markFloat32S_g qv236.2 v237) fun y => .grd (decide (y.2.length = qv236.2.length)) (.leaf (.int .i64 y.1, setRows L ([qv236.1].zip [.f32 y.2])))
    | false => .fail)
  | _ => .fail
theorem laws_markFloat32S_Fok : COk Try.prog 51 laws_markFloat32S_F false := by
  intro F L H args r L' hs ha hr
  unfold laws_markFloat32S_F at hr
  split at hr
  · rename_i a1 v237
    obtain ⟨⟨jv236, v236⟩, hqv236, hr⟩ := optT_run hr
    simp only at hr
    split at hr
    · rename_i hsep
      obtain ⟨hnd, hsepv⟩ := sepB_spec hsep
      simp only [Tree.run] at hr
      obtain ⟨y, hy, hr⟩ := Option.bind_eq_some_iff.1 hr
      try simp only [Tree.run] at hr
      obtain ⟨hl0, hr⟩ := ite_run hr
      simp only [Option.some.injEq, Prod.mk.injEq] at hr
      obtain ⟨rfl, rfl⟩ := hr
      obtain ⟨hr0, hu0, ha0, hb0⟩ := (ownR_spec (DVs.okAt ha 0 rfl) (ownF32_or hqv236))
      exact mut_ok hs (fun k => (([a1.av F] : List AV)[k]?).getD .top) [a1, .int .i64 v237] [.own 0 0 v236.length, .int .i64 v237] [jv236] [.f32 v236] [.f32 y.2] hnd rfl rfl (fun i j q h1 h2 => by
          rcases i with _ | i
          · simp at h1 h2; subst h1; subst h2; exact hr0
          · simp at h1) (fun i q q' h1 h2 => by
          rcases i with _ | i
          · simp at h1 h2; subst h1; subst h2; first | exact of_decide_eq_true hl0 | rfl
          · simp at h1) (fun j hj => by simp at hj; subst hj; simp [DVs.refs, DV.refs, hu0]) (fun F' h0 hi hρ hst hS => ⟨by (have ab0 : F'.abs 0 = F.abs jv236 := (by simp [Fr.abs, hi]); simp [DVs.av, DV.av, BR.av, hρ, Row.len, ha0, ab0]), by
          obtain ⟨H1, k1, k2, _⟩ := laws_markFloat32S_fn v236 v237 F' (by rw [hi]; rfl) hst ⟨⟨_, rfl, Nat.le_refl _, Nat.le_refl _, fun _ => rfl, (ownR_spec (DVs.okAt ha 0 rfl) (ownF32_or hqv236)).2.2.2⟩, trivial, trivial⟩ hy
          exact ⟨H1, k1, k2⟩⟩) (fun F' => rfl) (fun L' => trivial)
    · cases hr
  · cases hr
/-! laws.markMatrix -/
noncomputable def laws_markMatrix_LO (v247 : Int) (v248 : Int) (v249 : List Nat) (v250 : Int) : LOr := fun id e L =>
  match id with
  | _ => .fail
noncomputable def laws_markMatrix_tab : List (FuncId × DFn × Bool) := [(51, laws_markFloat32S_F, false)]
theorem laws_markMatrix_hO : OrcOk Try.prog (tabD laws_markMatrix_tab) (tabM laws_markMatrix_tab) := tabD_cons laws_markFloat32S_Fok (tabD_nil _)
noncomputable def laws_markMatrix_T (v249 : List Nat) (v250 : Int) : Tree (Int × (List Nat)) :=
  (.call (laws_markFloat32S_g v249 v250) fun v251 =>
  (.grd (decide (v251.2.length = v249.length)) <|
  .leaf (v251.1, v251.2)))

noncomputable def laws_markMatrix_g (v249 : List Nat) (v250 : Int) : Option (Int × (List Nat)) := (laws_markMatrix_T v249 v250).run
def laws_markMatrix_enc (v247 : Int) (v248 : Int) (v249 : List Nat) (v250 : Int) (y : Int × (List Nat)) : Rs := (.int .i64 y.1, [.row (.f32 y.2) 0])
theorem laws_markMatrix_den (v247 : Int) (v248 : Int) (v249 : List Nat) (v250 : Int) : (den TT (tabD laws_markMatrix_tab) (tabM laws_markMatrix_tab) (laws_markMatrix_LO v247 v248 v249 v250) (codeOf Try.f41) ([.agg [.int .i64 v247, .int .i64 v248, .own 0 0 v249.length], .int .i64 v250] ++ List.replicate (Try.f41.ntmps - ([.agg [.int .i64 v247, .int .i64 v248, .own 0 0 v249.length], .int .i64 v250] : List DV).length) .undef) [.row (.f32 v249) 0]).bind (retD TT Try.f41.results.toList 1) = (laws_markMatrix_T v249 v250).bind fun y => .leaf (laws_markMatrix_enc v247 v248 v249 v250 y) := by kernel_rfl
theorem laws_markMatrix_fn (v247 : Int) (v248 : Int) (v249 : List Nat) (v250 : Int) (F : Fr) (hm : F.ids.length = 1) (h0 : St F [.row (.f32 v249) 0] F.H0) (hA : DVs.Ok F [.row (.f32 v249) 0] [.agg [.int .i64 v247, .int .i64 v248, .own 0 0 v249.length], .int .i64 v250]) {y : Int × (List Nat)} (hy : laws_markMatrix_g v249 v250 = some y) : ∃ H', FnOk Try.prog 41 (DVs.av F [.agg [.int .i64 v247, .int .i64 v248, .own 0 0 v249.length], .int .i64 v250]) F.H0 ((laws_markMatrix_enc v247 v248 v249 v250 y).1.av F) H' ∧ St F (laws_markMatrix_enc v247 v248 v249 v250 y).2 H' ∧ (laws_markMatrix_enc v247 v248 v249 v250 y).1.Ok F (laws_markMatrix_enc v247 v248 v249 v250 y).2 :=
  fn_fin tok laws_markMatrix_hO mixed Try.func41 Try.call41 (by kernel_rfl) (LoopsOk_eq (l := []) (by kernel_rfl) trivial) (laws_markMatrix_den v247 v248 v249 v250) hy hm h0 hA
noncomputable def laws_markMatrix_F : DFn := fun args L =>
  match args with
  | [.agg [.int .i64 v247, .int .i64 v248, a1], .int .i64 v250] =>
    optT (ownF32 L a1) fun qv249 =>
    (match sepB [qv249.1] [] with
    | true =>
    .call (laws_markMatrix_g qv249.2 v250) fun y => .grd (decide (y.2.length = qv249.2.length)) (.leaf (.int .i64 y.1, setRows L ([qv249.1].zip [.f32 y.2])))
    | false => .fail)
  | _ => .fail
theorem laws_markMatrix_Fok : COk Try.prog 41 laws_markMatrix_F false := by
  intro F L H args r L' hs ha hr
  unfold laws_markMatrix_F at hr
  split at hr
  · rename_i v247 v248 a1 v250
    obtain ⟨⟨jv249, v249⟩, hqv249, hr⟩ := optT_run hr
    simp only at hr
    split at hr
    · rename_i hsep
      obtain ⟨hnd, hsepv⟩ := sepB_spec hsep
      simp only [Tree.run] at hr
      obtain ⟨y, hy, hr⟩ := Option.bind_eq_some_iff.1 hr
      try simp only [Tree.run] at hr
      obtain ⟨hl0, hr⟩ := ite_run hr
      simp only [Option.some.injEq, Prod.mk.injEq] at hr
      obtain ⟨rfl, rfl⟩ := hr
      obtain ⟨hr0, hu0, ha0, hb0⟩ := (ownR_spec (DVs.okAt (DVs.okAt ha 0 rfl) 2 rfl) (ownF32_or hqv249))
      exact mut_ok hs (fun k => (([a1.av F] : List AV)[k]?).getD .top) [.agg [.int .i64 v247, .int .i64 v248, a1], .int .i64 v250] [.agg [.int .i64 v247, .int .i64 v248, .own 0 0 v249.length], .int .i64 v250] [jv249] [.f32 v249] [.f32 y.2] hnd rfl rfl (fun i j q h1 h2 => by
          rcases i with _ | i
          · simp at h1 h2; subst h1; subst h2; exact hr0
          · simp at h1) (fun i q q' h1 h2 => by
          rcases i with _ | i
          · simp at h1 h2; subst h1; subst h2; first | exact of_decide_eq_true hl0 | rfl
          · simp at h1) (fun j hj => by simp at hj; subst hj; simp [DVs.refs, DV.refs, hu0]) (fun F' h0 hi hρ hst hS => ⟨by (have ab0 : F'.abs 0 = F.abs jv249 := (by simp [Fr.abs, hi]); simp [DVs.av, DV.av, BR.av, hρ, Row.len, ha0, ab0]), by
          obtain ⟨H1, k1, k2, _⟩ := laws_markMatrix_fn v247 v248 v249 v250 F' (by rw [hi]; rfl) hst ⟨⟨trivial, trivial, ⟨_, rfl, Nat.le_refl _, Nat.le_refl _, fun _ => rfl, (ownR_spec (DVs.okAt (DVs.okAt ha 0 rfl) 2 rfl) (ownF32_or hqv249)).2.2.2⟩, trivial⟩, trivial, trivial⟩ hy
          exact ⟨H1, k1, k2⟩⟩) (fun F' => rfl) (fun L' => trivial)
    · cases hr
  · cases hr
/-! laws.markSheet -/
noncomputable def laws_markSheet_LO (v252 : ByteArray) (v253 : Int) (v254 : Int) (v255 : List Nat) (v256 : Int) : LOr := fun id e L =>
  match id with
  | _ => .fail
noncomputable def laws_markSheet_tab : List (FuncId × DFn × Bool) := [(41, laws_markMatrix_F, false)]
theorem laws_markSheet_hO : OrcOk Try.prog (tabD laws_markSheet_tab) (tabM laws_markSheet_tab) := tabD_cons laws_markMatrix_Fok (tabD_nil _)
noncomputable def laws_markSheet_T (v255 : List Nat) (v256 : Int) : Tree (Int × (List Nat)) :=
  (.call (laws_markMatrix_g v255 v256) fun v257 =>
  (.grd (decide (v257.2.length = v255.length)) <|
  .leaf (v257.1, v257.2)))

noncomputable def laws_markSheet_g (v255 : List Nat) (v256 : Int) : Option (Int × (List Nat)) := (laws_markSheet_T v255 v256).run
def laws_markSheet_enc (v252 : ByteArray) (v253 : Int) (v254 : Int) (v255 : List Nat) (v256 : Int) (y : Int × (List Nat)) : Rs := (.int .i64 y.1, [.row (.f32 y.2) 0])
theorem laws_markSheet_den (v252 : ByteArray) (v253 : Int) (v254 : Int) (v255 : List Nat) (v256 : Int) : (den TT (tabD laws_markSheet_tab) (tabM laws_markSheet_tab) (laws_markSheet_LO v252 v253 v254 v255 v256) (codeOf Try.f16) ([.agg [.str v252, .int .i64 v253, .int .i64 v254, .own 0 0 v255.length], .int .i64 v256] ++ List.replicate (Try.f16.ntmps - ([.agg [.str v252, .int .i64 v253, .int .i64 v254, .own 0 0 v255.length], .int .i64 v256] : List DV).length) .undef) [.row (.f32 v255) 0]).bind (retD TT Try.f16.results.toList 1) = (laws_markSheet_T v255 v256).bind fun y => .leaf (laws_markSheet_enc v252 v253 v254 v255 v256 y) := by kernel_rfl
theorem laws_markSheet_fn (v252 : ByteArray) (v253 : Int) (v254 : Int) (v255 : List Nat) (v256 : Int) (F : Fr) (hm : F.ids.length = 1) (h0 : St F [.row (.f32 v255) 0] F.H0) (hA : DVs.Ok F [.row (.f32 v255) 0] [.agg [.str v252, .int .i64 v253, .int .i64 v254, .own 0 0 v255.length], .int .i64 v256]) {y : Int × (List Nat)} (hy : laws_markSheet_g v255 v256 = some y) : ∃ H', FnOk Try.prog 16 (DVs.av F [.agg [.str v252, .int .i64 v253, .int .i64 v254, .own 0 0 v255.length], .int .i64 v256]) F.H0 ((laws_markSheet_enc v252 v253 v254 v255 v256 y).1.av F) H' ∧ St F (laws_markSheet_enc v252 v253 v254 v255 v256 y).2 H' ∧ (laws_markSheet_enc v252 v253 v254 v255 v256 y).1.Ok F (laws_markSheet_enc v252 v253 v254 v255 v256 y).2 :=
  fn_fin tok laws_markSheet_hO mixed Try.func16 Try.call16 (by kernel_rfl) (LoopsOk_eq (l := []) (by kernel_rfl) trivial) (laws_markSheet_den v252 v253 v254 v255 v256) hy hm h0 hA
noncomputable def laws_markSheet_F : DFn := fun args L =>
  match args with
  | [.agg [.str v252, .int .i64 v253, .int .i64 v254, a1], .int .i64 v256] =>
    optT (ownF32 L a1) fun qv255 =>
    (match sepB [qv255.1] [] with
    | true =>
    .call (laws_markSheet_g qv255.2 v256) fun y => .grd (decide (y.2.length = qv255.2.length)) (.leaf (.int .i64 y.1, setRows L ([qv255.1].zip [.f32 y.2])))
    | false => .fail)
  | _ => .fail
theorem laws_markSheet_Fok : COk Try.prog 16 laws_markSheet_F false := by
  intro F L H args r L' hs ha hr
  unfold laws_markSheet_F at hr
  split at hr
  · rename_i v252 v253 v254 a1 v256
    obtain ⟨⟨jv255, v255⟩, hqv255, hr⟩ := optT_run hr
    simp only at hr
    split at hr
    · rename_i hsep
      obtain ⟨hnd, hsepv⟩ := sepB_spec hsep
      simp only [Tree.run] at hr
      obtain ⟨y, hy, hr⟩ := Option.bind_eq_some_iff.1 hr
      try simp only [Tree.run] at hr
      obtain ⟨hl0, hr⟩ := ite_run hr
      simp only [Option.some.injEq, Prod.mk.injEq] at hr
      obtain ⟨rfl, rfl⟩ := hr
      obtain ⟨hr0, hu0, ha0, hb0⟩ := (ownR_spec (DVs.okAt (DVs.okAt ha 0 rfl) 3 rfl) (ownF32_or hqv255))
      exact mut_ok hs (fun k => (([a1.av F] : List AV)[k]?).getD .top) [.agg [.str v252, .int .i64 v253, .int .i64 v254, a1], .int .i64 v256] [.agg [.str v252, .int .i64 v253, .int .i64 v254, .own 0 0 v255.length], .int .i64 v256] [jv255] [.f32 v255] [.f32 y.2] hnd rfl rfl (fun i j q h1 h2 => by
          rcases i with _ | i
          · simp at h1 h2; subst h1; subst h2; exact hr0
          · simp at h1) (fun i q q' h1 h2 => by
          rcases i with _ | i
          · simp at h1 h2; subst h1; subst h2; first | exact of_decide_eq_true hl0 | rfl
          · simp at h1) (fun j hj => by simp at hj; subst hj; simp [DVs.refs, DV.refs, hu0]) (fun F' h0 hi hρ hst hS => ⟨by (have ab0 : F'.abs 0 = F.abs jv255 := (by simp [Fr.abs, hi]); simp [DVs.av, DV.av, BR.av, hρ, Row.len, ha0, ab0]), by
          obtain ⟨H1, k1, k2, _⟩ := laws_markSheet_fn v252 v253 v254 v255 v256 F' (by rw [hi]; rfl) hst ⟨⟨trivial, trivial, trivial, ⟨_, rfl, Nat.le_refl _, Nat.le_refl _, fun _ => rfl, (ownR_spec (DVs.okAt (DVs.okAt ha 0 rfl) 3 rfl) (ownF32_or hqv255)).2.2.2⟩, trivial⟩, trivial, trivial⟩ hy
          exact ⟨H1, k1, k2⟩⟩) (fun F' => rfl) (fun L' => trivial)
    · cases hr
  · cases hr
/-! laws.markFloat32S -/
noncomputable def laws_markFloat32S_i1_l0_T (s : Unit) : Tree ((Unit) ⊕ (Unit)) :=
  (.br (decide ((0 : Int) < (0 : Int))) (
   .fail
  ) (
   .leaf (.inr ())
  ))

noncomputable def laws_markFloat32S_i1_l0_g (s0 : Unit) : Option (Unit) := whileM (fun s => (laws_markFloat32S_i1_l0_T s).run) s0
def laws_markFloat32S_i1_l0_E (v265 : Int) (s : Unit) : Sd := ([.nilslc, .int .i64 v265, .top, .top, .top, .int .i64 (0 : Int), .top, .top, .top, .top, .top, .top, .top, .top, .top, .top, .top, .top, .top, .top], [])
def laws_markFloat32S_i1_l0_X (v265 : Int) (x : Unit) : Out := (.normal, [.top, .int .i64 v265, .top, .top, .top, .top, .top, .top, .top, .top, .top, .top, .top, .top, .top, .top, .top, .top, .top, .top], [])
def laws_markFloat32S_i1_l0_kill : List Nat := [0, 0, 1, 1, 1, 0, 1, 1, 1, 1, 1, 1, 1, 1, 1, 1, 1, 1, 1, 1]
def laws_markFloat32S_i1_l0_nx : Exit → List Nat
  | .exit 0 => [1, 0, 1, 1, 1, 1, 1, 1, 1, 1, 1, 1, 1, 1, 1, 1, 1, 1, 1, 1]
  | .ret => [1, 1, 1, 1, 0, 1, 1, 1, 1, 1, 1, 1, 1, 1, 1, 1, 1, 1, 1, 1]
  | _ => []
noncomputable def laws_markFloat32S_i1_LO (v265 : Int) : LOr := fun id e L =>
  match id with
  | 0 => .need (normA 0 laws_markFloat32S_i1_l0_kill e L = some (laws_markFloat32S_i1_l0_E v265 ())) (.call (laws_markFloat32S_i1_l0_g ()) fun x => .leaf (laws_markFloat32S_i1_l0_X v265 x))
  | _ => .fail
noncomputable def laws_markFloat32S_i1_tab : List (FuncId × DFn × Bool) := []
theorem laws_markFloat32S_i1_hO : OrcOk Try.prog (tabD laws_markFloat32S_i1_tab) (tabM laws_markFloat32S_i1_tab) := tabD_nil _
theorem laws_markFloat32S_i1_l0_be (v265 : Int) (s : Unit) : bodyT TT (tabD laws_markFloat32S_i1_tab) (tabM laws_markFloat32S_i1_tab) (laws_markFloat32S_i1_LO v265) 0 laws_markFloat32S_i1_l0_kill laws_markFloat32S_i1_l0_nx (bodyOf Try.f51 0) 0 (laws_markFloat32S_i1_l0_E v265 s) = (laws_markFloat32S_i1_l0_T s).bind fun y => .leaf (outS (laws_markFloat32S_i1_l0_E v265) (laws_markFloat32S_i1_l0_X v265) y) := by kernel_rfl
theorem laws_markFloat32S_i1_l0_ok (v265 : Int) : LSound Try.prog 0 (laws_markFloat32S_i1_LO v265) 0 (bodyOf Try.f51 0) := by
  intro e L out h
  exact lo_ok (E := laws_markFloat32S_i1_l0_E v265) (gT := laws_markFloat32S_i1_l0_T) (X := laws_markFloat32S_i1_l0_X v265) (s0 := ()) tok laws_markFloat32S_i1_hO mixed (LoopsOk_eq (l := []) (by kernel_rfl) trivial) (laws_markFloat32S_i1_l0_be v265) rfl (by intro x; rfl) h
noncomputable def laws_markFloat32S_i1_T (v265 : Int) : Tree (Int) :=
  (.need (some (laws_markFloat32S_i1_l0_E v265 ()) = some (laws_markFloat32S_i1_l0_E v265 ())) <|
  (.call (laws_markFloat32S_i1_l0_g ()) fun v268 =>
  .leaf v265))

noncomputable def laws_markFloat32S_i1_g (v265 : Int) : Option (Int) := (laws_markFloat32S_i1_T v265).run
def laws_markFloat32S_i1_enc (v265 : Int) (y : Int) : Rs := (.int .i64 y, [])
theorem laws_markFloat32S_i1_den (v265 : Int) : (den TT (tabD laws_markFloat32S_i1_tab) (tabM laws_markFloat32S_i1_tab) (laws_markFloat32S_i1_LO v265) (codeOf Try.f51) ([.nilslc, .int .i64 v265] ++ List.replicate (Try.f51.ntmps - ([.nilslc, .int .i64 v265] : List DV).length) .undef) []).bind (retD TT Try.f51.results.toList 0) = (laws_markFloat32S_i1_T v265).bind fun y => .leaf (laws_markFloat32S_i1_enc v265 y) := by kernel_rfl
theorem laws_markFloat32S_i1_fn (v265 : Int) (F : Fr) (hm : F.ids.length = 0) (h0 : St F [] F.H0) (hA : DVs.Ok F [] [.nilslc, .int .i64 v265]) {y : Int} (hy : laws_markFloat32S_i1_g v265 = some y) : ∃ H', FnOk Try.prog 51 (DVs.av F [.nilslc, .int .i64 v265]) F.H0 ((laws_markFloat32S_i1_enc v265 y).1.av F) H' ∧ St F (laws_markFloat32S_i1_enc v265 y).2 H' ∧ (laws_markFloat32S_i1_enc v265 y).1.Ok F (laws_markFloat32S_i1_enc v265 y).2 :=
  fn_fin tok laws_markFloat32S_i1_hO mixed Try.func51 Try.call51 (by kernel_rfl) (LoopsOk_eq (l := [(0, bodyOf Try.f51 0)]) (by kernel_rfl) ⟨laws_markFloat32S_i1_l0_ok v265, trivial⟩) (laws_markFloat32S_i1_den v265) hy hm h0 hA
noncomputable def laws_markFloat32S_i1_F : DFn := fun args L =>
  match args with
  | [.nilslc, .int .i64 v265] =>
    .call (laws_markFloat32S_i1_g v265) fun y => .leaf (.int .i64 y, L)
  | _ => .fail
theorem laws_markFloat32S_i1_Fok : COk Try.prog 51 laws_markFloat32S_i1_F true := by
  intro F L H args r L' hs ha hr
  unfold laws_markFloat32S_i1_F at hr
  split at hr
  · rename_i v265
    simp only [Tree.run] at hr
    obtain ⟨y, hy, hr⟩ := Option.bind_eq_some_iff.1 hr
    simp only [Tree.run, Option.some.injEq, Prod.mk.injEq] at hr
    obtain ⟨rfl, rfl⟩ := hr
    exact call_ok0 hs (fun k => (([] : List AV)[k]?).getD .top) [.nilslc, .int .i64 v265] [.nilslc, .int .i64 v265] (fun F' h0 hi hρ => ⟨by simp [DVs.av, DV.av, BR.av, hρ], laws_markFloat32S_i1_fn v265 F' (by rw [hi]; rfl) (st_nil hi) ⟨trivial, trivial, trivial⟩ hy⟩) rfl
  · cases hr
/-! laws.markMatrix -/
noncomputable def laws_markMatrix_i1_LO (v262 : Int) (v263 : Int) (v264 : Int) : LOr := fun id e L =>
  match id with
  | _ => .fail
noncomputable def laws_markMatrix_i1_tab : List (FuncId × DFn × Bool) := [(51, laws_markFloat32S_i1_F, true)]
theorem laws_markMatrix_i1_hO : OrcOk Try.prog (tabD laws_markMatrix_i1_tab) (tabM laws_markMatrix_i1_tab) := tabD_cons laws_markFloat32S_i1_Fok (tabD_nil _)
noncomputable def laws_markMatrix_i1_T (v264 : Int) : Tree (Int) :=
  (.call (laws_markFloat32S_i1_g v264) fun v269 =>
  .leaf v269)

noncomputable def laws_markMatrix_i1_g (v264 : Int) : Option (Int) := (laws_markMatrix_i1_T v264).run
def laws_markMatrix_i1_enc (v262 : Int) (v263 : Int) (v264 : Int) (y : Int) : Rs := (.int .i64 y, [])
theorem laws_markMatrix_i1_den (v262 : Int) (v263 : Int) (v264 : Int) : (den TT (tabD laws_markMatrix_i1_tab) (tabM laws_markMatrix_i1_tab) (laws_markMatrix_i1_LO v262 v263 v264) (codeOf Try.f41) ([.agg [.int .i64 v262, .int .i64 v263, .nilslc], .int .i64 v264] ++ List.replicate (Try.f41.ntmps - ([.agg [.int .i64 v262, .int .i64 v263, .nilslc], .int .i64 v264] : List DV).length) .undef) []).bind (retD TT Try.f41.results.toList 0) = (laws_markMatrix_i1_T v264).bind fun y => .leaf (laws_markMatrix_i1_enc v262 v263 v264 y) := by kernel_rfl
theorem laws_markMatrix_i1_fn (v262 : Int) (v263 : Int) (v264 : Int) (F : Fr) (hm : F.ids.length = 0) (h0 : St F [] F.H0) (hA : DVs.Ok F [] [.agg [.int .i64 v262, .int .i64 v263, .nilslc], .int .i64 v264]) {y : Int} (hy : laws_markMatrix_i1_g v264 = some y) : ∃ H', FnOk Try.prog 41 (DVs.av F [.agg [.int .i64 v262, .int .i64 v263, .nilslc], .int .i64 v264]) F.H0 ((laws_markMatrix_i1_enc v262 v263 v264 y).1.av F) H' ∧ St F (laws_markMatrix_i1_enc v262 v263 v264 y).2 H' ∧ (laws_markMatrix_i1_enc v262 v263 v264 y).1.Ok F (laws_markMatrix_i1_enc v262 v263 v264 y).2 :=
  fn_fin tok laws_markMatrix_i1_hO mixed Try.func41 Try.call41 (by kernel_rfl) (LoopsOk_eq (l := []) (by kernel_rfl) trivial) (laws_markMatrix_i1_den v262 v263 v264) hy hm h0 hA
noncomputable def laws_markMatrix_i1_F : DFn := fun args L =>
  match args with
  | [.agg [.int .i64 v262, .int .i64 v263, .nilslc], .int .i64 v264] =>
    .call (laws_markMatrix_i1_g v264) fun y => .leaf (.int .i64 y, L)
  | _ => .fail
theorem laws_markMatrix_i1_Fok : COk Try.prog 41 laws_markMatrix_i1_F true := by
  intro F L H args r L' hs ha hr
  unfold laws_markMatrix_i1_F at hr
  split at hr
  · rename_i v262 v263 v264
    simp only [Tree.run] at hr
    obtain ⟨y, hy, hr⟩ := Option.bind_eq_some_iff.1 hr
    simp only [Tree.run, Option.some.injEq, Prod.mk.injEq] at hr
    obtain ⟨rfl, rfl⟩ := hr
    exact call_ok0 hs (fun k => (([] : List AV)[k]?).getD .top) [.agg [.int .i64 v262, .int .i64 v263, .nilslc], .int .i64 v264] [.agg [.int .i64 v262, .int .i64 v263, .nilslc], .int .i64 v264] (fun F' h0 hi hρ => ⟨by simp [DVs.av, DV.av, BR.av, hρ], laws_markMatrix_i1_fn v262 v263 v264 F' (by rw [hi]; rfl) (st_nil hi) ⟨⟨trivial, trivial, trivial, trivial⟩, trivial, trivial⟩ hy⟩) rfl
  · cases hr
/-! laws.markSheet -/
noncomputable def laws_markSheet_i1_LO (v258 : ByteArray) (v259 : Int) (v260 : Int) (v261 : Int) : LOr := fun id e L =>
  match id with
  | _ => .fail
noncomputable def laws_markSheet_i1_tab : List (FuncId × DFn × Bool) := [(41, laws_markMatrix_i1_F, true)]
theorem laws_markSheet_i1_hO : OrcOk Try.prog (tabD laws_markSheet_i1_tab) (tabM laws_markSheet_i1_tab) := tabD_cons laws_markMatrix_i1_Fok (tabD_nil _)
noncomputable def laws_markSheet_i1_T (v261 : Int) : Tree (Int) :=
  (.call (laws_markMatrix_i1_g v261) fun v270 =>
  .leaf v270)

noncomputable def laws_markSheet_i1_g (v261 : Int) : Option (Int) := (laws_markSheet_i1_T v261).run
def laws_markSheet_i1_enc (v258 : ByteArray) (v259 : Int) (v260 : Int) (v261 : Int) (y : Int) : Rs := (.int .i64 y, [])
theorem laws_markSheet_i1_den (v258 : ByteArray) (v259 : Int) (v260 : Int) (v261 : Int) : (den TT (tabD laws_markSheet_i1_tab) (tabM laws_markSheet_i1_tab) (laws_markSheet_i1_LO v258 v259 v260 v261) (codeOf Try.f16) ([.agg [.str v258, .int .i64 v259, .int .i64 v260, .nilslc], .int .i64 v261] ++ List.replicate (Try.f16.ntmps - ([.agg [.str v258, .int .i64 v259, .int .i64 v260, .nilslc], .int .i64 v261] : List DV).length) .undef) []).bind (retD TT Try.f16.results.toList 0) = (laws_markSheet_i1_T v261).bind fun y => .leaf (laws_markSheet_i1_enc v258 v259 v260 v261 y) := by kernel_rfl
theorem laws_markSheet_i1_fn (v258 : ByteArray) (v259 : Int) (v260 : Int) (v261 : Int) (F : Fr) (hm : F.ids.length = 0) (h0 : St F [] F.H0) (hA : DVs.Ok F [] [.agg [.str v258, .int .i64 v259, .int .i64 v260, .nilslc], .int .i64 v261]) {y : Int} (hy : laws_markSheet_i1_g v261 = some y) : ∃ H', FnOk Try.prog 16 (DVs.av F [.agg [.str v258, .int .i64 v259, .int .i64 v260, .nilslc], .int .i64 v261]) F.H0 ((laws_markSheet_i1_enc v258 v259 v260 v261 y).1.av F) H' ∧ St F (laws_markSheet_i1_enc v258 v259 v260 v261 y).2 H' ∧ (laws_markSheet_i1_enc v258 v259 v260 v261 y).1.Ok F (laws_markSheet_i1_enc v258 v259 v260 v261 y).2 :=
  fn_fin tok laws_markSheet_i1_hO mixed Try.func16 Try.call16 (by kernel_rfl) (LoopsOk_eq (l := []) (by kernel_rfl) trivial) (laws_markSheet_i1_den v258 v259 v260 v261) hy hm h0 hA
noncomputable def laws_markSheet_i1_F : DFn := fun args L =>
  match args with
  | [.agg [.str v258, .int .i64 v259, .int .i64 v260, .nilslc], .int .i64 v261] =>
    .call (laws_markSheet_i1_g v261) fun y => .leaf (.int .i64 y, L)
  | _ => .fail
theorem laws_markSheet_i1_Fok : COk Try.prog 16 laws_markSheet_i1_F true := by
  intro F L H args r L' hs ha hr
  unfold laws_markSheet_i1_F at hr
  split at hr
  · rename_i v258 v259 v260 v261
    simp only [Tree.run] at hr
    obtain ⟨y, hy, hr⟩ := Option.bind_eq_some_iff.1 hr
    simp only [Tree.run, Option.some.injEq, Prod.mk.injEq] at hr
    obtain ⟨rfl, rfl⟩ := hr
    exact call_ok0 hs (fun k => (([] : List AV)[k]?).getD .top) [.agg [.str v258, .int .i64 v259, .int .i64 v260, .nilslc], .int .i64 v261] [.agg [.str v258, .int .i64 v259, .int .i64 v260, .nilslc], .int .i64 v261] (fun F' h0 hi hρ => ⟨by simp [DVs.av, DV.av, BR.av, hρ], laws_markSheet_i1_fn v258 v259 v260 v261 F' (by rw [hi]; rfl) (st_nil hi) ⟨⟨trivial, trivial, trivial, trivial, trivial⟩, trivial, trivial⟩ hy⟩) rfl
  · cases hr
/-! laws.heldFloat32S -/
noncomputable def laws_heldFloat32S_l0_T (v281 : List Nat) (s : Int × Int) : Tree ((Int × Int) ⊕ ((Unit) ⊕ (Int))) :=
  (.br (decide (s.2 < ((v281.length : Nat) : Int))) (
   (.grd (inb s.2 v281.length) <|
   (.br (!feq .f32 (nth v281 (Int.toNat s.2)) (fofint .f32 s.1)) (
    .leaf (.inr (.inl ()))
   ) (
    .leaf (.inl (IntKind.i64.wrap (s.1 + (1 : Int)), IntKind.i64.wrap (s.2 + (1 : Int))))
   )))
  ) (
   .leaf (.inr (.inr s.1))
  ))

noncomputable def laws_heldFloat32S_l0_g (v281 : List Nat) (s0 : Int × Int) : Option ((Unit) ⊕ (Int)) := whileM (fun s => (laws_heldFloat32S_l0_T v281 s).run) s0
def laws_heldFloat32S_l0_E (v281 : List Nat) (v282 : Int) (s : Int × Int) : Sd := ([.bslc (BR.root 0) (.f32 v281), .int .i64 s.1, .top, .top, .top, .int .i64 s.2, .top, .top, .top, .top, .top, .top, .top, .top, .top, .top, .top, .top, .top, .top, .top, .top], [])
def laws_heldFloat32S_l0_X (v281 : List Nat) (v282 : Int) (x : (Unit) ⊕ (Int)) : Out := (match x with | .inl x => (.ret, [.top, .top, .top, .top, .int .i64 (-1 : Int), .top, .top, .top, .top, .top, .top, .top, .top, .top, .top, .top, .top, .top, .top, .top, .top, .top], []) | .inr x => (.normal, [.top, .int .i64 x, .top, .top, .top, .top, .top, .top, .top, .top, .top, .top, .top, .top, .top, .top, .top, .top, .top, .top, .top, .top], []))
def laws_heldFloat32S_l0_kill : List Nat := [0, 0, 1, 1, 1, 0, 1, 1, 1, 1, 1, 1, 1, 1, 1, 1, 1, 1, 1, 1, 1, 1]
def laws_heldFloat32S_l0_nx : Exit → List Nat
  | .exit 0 => [1, 0, 1, 1, 1, 1, 1, 1, 1, 1, 1, 1, 1, 1, 1, 1, 1, 1, 1, 1, 1, 1]
  | .ret => [1, 1, 1, 1, 0, 1, 1, 1, 1, 1, 1, 1, 1, 1, 1, 1, 1, 1, 1, 1, 1, 1]
  | _ => []
noncomputable def laws_heldFloat32S_LO (v281 : List Nat) (v282 : Int) : LOr := fun id e L =>
  match id with
  | 0 => .need (normA 0 laws_heldFloat32S_l0_kill e L = some (laws_heldFloat32S_l0_E v281 v282 ((gI (vAt e 1)), (gI (vAt e 5))))) (.call (laws_heldFloat32S_l0_g v281 ((gI (vAt e 1)), (gI (vAt e 5)))) fun x => .sum x (fun b0 => .leaf (laws_heldFloat32S_l0_X v281 v282 (.inl b0))) (fun c0 => .leaf (laws_heldFloat32S_l0_X v281 v282 (.inr c0))))
  | _ => .fail
noncomputable def laws_heldFloat32S_tab : List (FuncId × DFn × Bool) := []
theorem laws_heldFloat32S_hO : OrcOk Try.prog (tabD laws_heldFloat32S_tab) (tabM laws_heldFloat32S_tab) := tabD_nil _
theorem laws_heldFloat32S_l0_be (v281 : List Nat) (v282 : Int) (s : Int × Int) : bodyT TT (tabD laws_heldFloat32S_tab) (tabM laws_heldFloat32S_tab) (laws_heldFloat32S_LO v281 v282) 0 laws_heldFloat32S_l0_kill laws_heldFloat32S_l0_nx (bodyOf Try.f52 0) 0 (laws_heldFloat32S_l0_E v281 v282 s) = (laws_heldFloat32S_l0_T v281 s).bind fun y => .leaf (outS (laws_heldFloat32S_l0_E v281 v282) (laws_heldFloat32S_l0_X v281 v282) y) := by kernel_rfl
theorem laws_heldFloat32S_l0_ok (v281 : List Nat) (v282 : Int) : LSound Try.prog 0 (laws_heldFloat32S_LO v281 v282) 0 (bodyOf Try.f52 0) := by
  intro e L out h
  exact lo_ok (E := laws_heldFloat32S_l0_E v281 v282) (gT := laws_heldFloat32S_l0_T v281) (X := laws_heldFloat32S_l0_X v281 v282) (s0 := ((gI (vAt e 1)), (gI (vAt e 5)))) tok laws_heldFloat32S_hO mixed (LoopsOk_eq (l := []) (by kernel_rfl) trivial) (laws_heldFloat32S_l0_be v281 v282) rfl (by intro x; (cases x with | inl b => rfl | inr x => exact rfl)) h
noncomputable def laws_heldFloat32S_T (v281 : List Nat) (v282 : Int) : Tree (Int) :=
  (.need (some (laws_heldFloat32S_l0_E v281 v282 (v282, (0 : Int))) = some (laws_heldFloat32S_l0_E v281 v282 (v282, (0 : Int)))) <|
  (.call (laws_heldFloat32S_l0_g v281 (v282, (0 : Int))) fun v289 =>
  (.sum v289 (fun v290 =>
   .leaf (-1 : Int)
  ) (fun v291 =>
   .leaf v291
  ))))

noncomputable def laws_heldFloat32S_g (v281 : List Nat) (v282 : Int) : Option (Int) := (laws_heldFloat32S_T v281 v282).run
def laws_heldFloat32S_enc (v281 : List Nat) (v282 : Int) (y : Int) : Rs := (.int .i64 y, [])
theorem laws_heldFloat32S_den (v281 : List Nat) (v282 : Int) : (den TT (tabD laws_heldFloat32S_tab) (tabM laws_heldFloat32S_tab) (laws_heldFloat32S_LO v281 v282) (codeOf Try.f52) ([.bslc (BR.root 0) (.f32 v281), .int .i64 v282] ++ List.replicate (Try.f52.ntmps - ([.bslc (BR.root 0) (.f32 v281), .int .i64 v282] : List DV).length) .undef) []).bind (retD TT Try.f52.results.toList 0) = (laws_heldFloat32S_T v281 v282).bind fun y => .leaf (laws_heldFloat32S_enc v281 v282 y) := by kernel_rfl
theorem laws_heldFloat32S_fn (v281 : List Nat) (v282 : Int) (F : Fr) (hm : F.ids.length = 0) (h0 : St F [] F.H0) (hA : DVs.Ok F [] [.bslc (BR.root 0) (.f32 v281), .int .i64 v282]) {y : Int} (hy : laws_heldFloat32S_g v281 v282 = some y) : ∃ H', FnOk Try.prog 52 (DVs.av F [.bslc (BR.root 0) (.f32 v281), .int .i64 v282]) F.H0 ((laws_heldFloat32S_enc v281 v282 y).1.av F) H' ∧ St F (laws_heldFloat32S_enc v281 v282 y).2 H' ∧ (laws_heldFloat32S_enc v281 v282 y).1.Ok F (laws_heldFloat32S_enc v281 v282 y).2 :=
  fn_fin tok laws_heldFloat32S_hO mixed Try.func52 Try.call52 (by kernel_rfl) (LoopsOk_eq (l := [(0, bodyOf Try.f52 0)]) (by kernel_rfl) ⟨laws_heldFloat32S_l0_ok v281 v282, trivial⟩) (laws_heldFloat32S_den v281 v282) hy hm h0 hA
noncomputable def laws_heldFloat32S_F : DFn := fun args L =>
  match args with
  | [a1, .int .i64 v282] =>
    optT (rowF32 L a1) fun v281 =>
    .call (laws_heldFloat32S_g v281 v282) fun y => .leaf (.int .i64 y, L)
  | _ => .fail
theorem laws_heldFloat32S_Fok : COk Try.prog 52 laws_heldFloat32S_F true := by
  intro F L H args r L' hs ha hr
  unfold laws_heldFloat32S_F at hr
  split at hr
  · rename_i a1 v282
    obtain ⟨v281, hv281, hr⟩ := optT_run hr
    simp only [Tree.run] at hr
    obtain ⟨y, hy, hr⟩ := Option.bind_eq_some_iff.1 hr
    simp only [Tree.run, Option.some.injEq, Prod.mk.injEq] at hr
    obtain ⟨rfl, rfl⟩ := hr
    exact call_ok0 hs (fun k => (([a1.av F] : List AV)[k]?).getD .top) [a1, .int .i64 v282] [.bslc (BR.root 0) (.f32 v281), .int .i64 v282] (fun F' h0 hi hρ => ⟨by simp [DVs.av, DV.av, BR.av, hρ], laws_heldFloat32S_fn v281 v282 F' (by rw [hi]; rfl) (st_nil hi) ⟨bslc_ok hi (by rw [h0, hρ]; exact rowF32_ok hs (DVs.okAt ha 0 rfl) hv281), trivial, trivial⟩ hy⟩) rfl
  · cases hr
/-! laws.heldMatrix -/
noncomputable def laws_heldMatrix_LO (v277 : Int) (v278 : Int) (v279 : List Nat) (v280 : Int) : LOr := fun id e L =>
  match id with
  | _ => .fail
noncomputable def laws_heldMatrix_tab : List (FuncId × DFn × Bool) := [(52, laws_heldFloat32S_F, true)]
theorem laws_heldMatrix_hO : OrcOk Try.prog (tabD laws_heldMatrix_tab) (tabM laws_heldMatrix_tab) := tabD_cons laws_heldFloat32S_Fok (tabD_nil _)
noncomputable def laws_heldMatrix_T (v279 : List Nat) (v280 : Int) : Tree (Int) :=
  (.call (laws_heldFloat32S_g v279 v280) fun v292 =>
  (.br (decide (v292 < (0 : Int))) (
   .leaf (-1 : Int)
  ) (
   .leaf v292
  )))

noncomputable def laws_heldMatrix_g (v279 : List Nat) (v280 : Int) : Option (Int) := (laws_heldMatrix_T v279 v280).run
def laws_heldMatrix_enc (v277 : Int) (v278 : Int) (v279 : List Nat) (v280 : Int) (y : Int) : Rs := (.int .i64 y, [])
theorem laws_heldMatrix_den (v277 : Int) (v278 : Int) (v279 : List Nat) (v280 : Int) : (den TT (tabD laws_heldMatrix_tab) (tabM laws_heldMatrix_tab) (laws_heldMatrix_LO v277 v278 v279 v280) (codeOf Try.f42) ([.agg [.int .i64 v277, .int .i64 v278, .bslc (BR.root 0) (.f32 v279)], .int .i64 v280] ++ List.replicate (Try.f42.ntmps - ([.agg [.int .i64 v277, .int .i64 v278, .bslc (BR.root 0) (.f32 v279)], .int .i64 v280] : List DV).length) .undef) []).bind (retD TT Try.f42.results.toList 0) = (laws_heldMatrix_T v279 v280).bind fun y => .leaf (laws_heldMatrix_enc v277 v278 v279 v280 y) := by kernel_rfl
theorem laws_heldMatrix_fn (v277 : Int) (v278 : Int) (v279 : List Nat) (v280 : Int) (F : Fr) (hm : F.ids.length = 0) (h0 : St F [] F.H0) (hA : DVs.Ok F [] [.agg [.int .i64 v277, .int .i64 v278, .bslc (BR.root 0) (.f32 v279)], .int .i64 v280]) {y : Int} (hy : laws_heldMatrix_g v279 v280 = some y) : ∃ H', FnOk Try.prog 42 (DVs.av F [.agg [.int .i64 v277, .int .i64 v278, .bslc (BR.root 0) (.f32 v279)], .int .i64 v280]) F.H0 ((laws_heldMatrix_enc v277 v278 v279 v280 y).1.av F) H' ∧ St F (laws_heldMatrix_enc v277 v278 v279 v280 y).2 H' ∧ (laws_heldMatrix_enc v277 v278 v279 v280 y).1.Ok F (laws_heldMatrix_enc v277 v278 v279 v280 y).2 :=
  fn_fin tok laws_heldMatrix_hO mixed Try.func42 Try.call42 (by kernel_rfl) (LoopsOk_eq (l := []) (by kernel_rfl) trivial) (laws_heldMatrix_den v277 v278 v279 v280) hy hm h0 hA
noncomputable def laws_heldMatrix_F : DFn := fun args L =>
  match args with
  | [.agg [.int .i64 v277, .int .i64 v278, a1], .int .i64 v280] =>
    optT (rowF32 L a1) fun v279 =>
    .call (laws_heldMatrix_g v279 v280) fun y => .leaf (.int .i64 y, L)
  | _ => .fail
theorem laws_heldMatrix_Fok : COk Try.prog 42 laws_heldMatrix_F true := by
  intro F L H args r L' hs ha hr
  unfold laws_heldMatrix_F at hr
  split at hr
  · rename_i v277 v278 a1 v280
    obtain ⟨v279, hv279, hr⟩ := optT_run hr
    simp only [Tree.run] at hr
    obtain ⟨y, hy, hr⟩ := Option.bind_eq_some_iff.1 hr
    simp only [Tree.run, Option.some.injEq, Prod.mk.injEq] at hr
    obtain ⟨rfl, rfl⟩ := hr
    exact call_ok0 hs (fun k => (([a1.av F] : List AV)[k]?).getD .top) [.agg [.int .i64 v277, .int .i64 v278, a1], .int .i64 v280] [.agg [.int .i64 v277, .int .i64 v278, .bslc (BR.root 0) (.f32 v279)], .int .i64 v280] (fun F' h0 hi hρ => ⟨by simp [DVs.av, DV.av, BR.av, hρ], laws_heldMatrix_fn v277 v278 v279 v280 F' (by rw [hi]; rfl) (st_nil hi) ⟨⟨trivial, trivial, bslc_ok hi (by rw [h0, hρ]; exact rowF32_ok hs (DVs.okAt (DVs.okAt ha 0 rfl) 2 rfl) hv279), trivial⟩, trivial, trivial⟩ hy⟩) rfl
  · cases hr
/-! laws.heldSheet -/
noncomputable def laws_heldSheet_LO (v272 : ByteArray) (v273 : Int) (v274 : Int) (v275 : List Nat) (v276 : Int) : LOr := fun id e L =>
  match id with
  | _ => .fail
noncomputable def laws_heldSheet_tab : List (FuncId × DFn × Bool) := [(42, laws_heldMatrix_F, true)]
theorem laws_heldSheet_hO : OrcOk Try.prog (tabD laws_heldSheet_tab) (tabM laws_heldSheet_tab) := tabD_cons laws_heldMatrix_Fok (tabD_nil _)
noncomputable def laws_heldSheet_T (v275 : List Nat) (v276 : Int) : Tree (Int) :=
  (.call (laws_heldMatrix_g v275 v276) fun v293 =>
  (.br (decide (v293 < (0 : Int))) (
   .leaf (-1 : Int)
  ) (
   .leaf v293
  )))

noncomputable def laws_heldSheet_g (v275 : List Nat) (v276 : Int) : Option (Int) := (laws_heldSheet_T v275 v276).run
def laws_heldSheet_enc (v272 : ByteArray) (v273 : Int) (v274 : Int) (v275 : List Nat) (v276 : Int) (y : Int) : Rs := (.int .i64 y, [])
theorem laws_heldSheet_den (v272 : ByteArray) (v273 : Int) (v274 : Int) (v275 : List Nat) (v276 : Int) : (den TT (tabD laws_heldSheet_tab) (tabM laws_heldSheet_tab) (laws_heldSheet_LO v272 v273 v274 v275 v276) (codeOf Try.f17) ([.agg [.str v272, .int .i64 v273, .int .i64 v274, .bslc (BR.root 0) (.f32 v275)], .int .i64 v276] ++ List.replicate (Try.f17.ntmps - ([.agg [.str v272, .int .i64 v273, .int .i64 v274, .bslc (BR.root 0) (.f32 v275)], .int .i64 v276] : List DV).length) .undef) []).bind (retD TT Try.f17.results.toList 0) = (laws_heldSheet_T v275 v276).bind fun y => .leaf (laws_heldSheet_enc v272 v273 v274 v275 v276 y) := by kernel_rfl
theorem laws_heldSheet_fn (v272 : ByteArray) (v273 : Int) (v274 : Int) (v275 : List Nat) (v276 : Int) (F : Fr) (hm : F.ids.length = 0) (h0 : St F [] F.H0) (hA : DVs.Ok F [] [.agg [.str v272, .int .i64 v273, .int .i64 v274, .bslc (BR.root 0) (.f32 v275)], .int .i64 v276]) {y : Int} (hy : laws_heldSheet_g v275 v276 = some y) : ∃ H', FnOk Try.prog 17 (DVs.av F [.agg [.str v272, .int .i64 v273, .int .i64 v274, .bslc (BR.root 0) (.f32 v275)], .int .i64 v276]) F.H0 ((laws_heldSheet_enc v272 v273 v274 v275 v276 y).1.av F) H' ∧ St F (laws_heldSheet_enc v272 v273 v274 v275 v276 y).2 H' ∧ (laws_heldSheet_enc v272 v273 v274 v275 v276 y).1.Ok F (laws_heldSheet_enc v272 v273 v274 v275 v276 y).2 :=
  fn_fin tok laws_heldSheet_hO mixed Try.func17 Try.call17 (by kernel_rfl) (LoopsOk_eq (l := []) (by kernel_rfl) trivial) (laws_heldSheet_den v272 v273 v274 v275 v276) hy hm h0 hA
noncomputable def laws_heldSheet_F : DFn := fun args L =>
  match args with
  | [.agg [.str v272, .int .i64 v273, .int .i64 v274, a1], .int .i64 v276] =>
    optT (rowF32 L a1) fun v275 =>
    .call (laws_heldSheet_g v275 v276) fun y => .leaf (.int .i64 y, L)
  | _ => .fail
theorem laws_heldSheet_Fok : COk Try.prog 17 laws_heldSheet_F true := by
  intro F L H args r L' hs ha hr
  unfold laws_heldSheet_F at hr
  split at hr
  · rename_i v272 v273 v274 a1 v276
    obtain ⟨v275, hv275, hr⟩ := optT_run hr
    simp only [Tree.run] at hr
    obtain ⟨y, hy, hr⟩ := Option.bind_eq_some_iff.1 hr
    simp only [Tree.run, Option.some.injEq, Prod.mk.injEq] at hr
    obtain ⟨rfl, rfl⟩ := hr
    exact call_ok0 hs (fun k => (([a1.av F] : List AV)[k]?).getD .top) [.agg [.str v272, .int .i64 v273, .int .i64 v274, a1], .int .i64 v276] [.agg [.str v272, .int .i64 v273, .int .i64 v274, .bslc (BR.root 0) (.f32 v275)], .int .i64 v276] (fun F' h0 hi hρ => ⟨by simp [DVs.av, DV.av, BR.av, hρ], laws_heldSheet_fn v272 v273 v274 v275 v276 F' (by rw [hi]; rfl) (st_nil hi) ⟨⟨trivial, trivial, trivial, bslc_ok hi (by rw [h0, hρ]; exact rowF32_ok hs (DVs.okAt (DVs.okAt ha 0 rfl) 3 rfl) hv275), trivial⟩, trivial, trivial⟩ hy⟩) rfl
  · cases hr
/-! laws.FnExactLoadSheet -/
noncomputable def laws_FnExactLoadSheet_LO (v1 : ByteArray) : LOr := fun id e L =>
  match id with
  | _ => .fail
noncomputable def laws_FnExactLoadSheet_tab : List (FuncId × DFn × Bool) := [(14, spec_LoadSheet_F, true), (15, impl_LoadSheet_F, true), (13, laws_eqSheet_F, true), (16, (orD (fun args => match args with | [.agg [_, _, _, .nilslc], _] => true | _ => false) laws_markSheet_i1_F laws_markSheet_F), false), (17, laws_heldSheet_F, true)]
theorem laws_FnExactLoadSheet_hO : OrcOk Try.prog (tabD laws_FnExactLoadSheet_tab) (tabM laws_FnExactLoadSheet_tab) := tabD_cons spec_LoadSheet_Fok (tabD_cons impl_LoadSheet_Fok (tabD_cons laws_eqSheet_Fok (tabD_cons (orD_ok (COk.weak laws_markSheet_i1_Fok) laws_markSheet_Fok) (tabD_cons laws_heldSheet_Fok (tabD_nil _)))))
noncomputable def laws_FnExactLoadSheet_T (v1 : ByteArray) : Tree (Bool) :=
  (.br (decide ((1048576 : Int) < ((v1.size : Nat) : Int))) (
   .leaf true
  ) (
   (.call (spec_LoadSheet_g v1) fun v77 =>
   (.sum v77 (fun v78 =>
    (.call (impl_LoadSheet_g v1) fun v193 =>
    (.sum v193 (fun v194 =>
     (.call (laws_eqSheet_g v194 (0 : Int) (0 : Int) ([] : List Nat) v78 (0 : Int) (0 : Int) ([] : List Nat)) fun v222 =>
     (.br (!v222) (
      .leaf false
     ) (
      (.br (!(false == false)) (
       .leaf false
      ) (
       (.call (laws_markSheet_i1_g (1 : Int)) fun v271 =>
       (.call (laws_heldSheet_g ([] : List Nat) (1 : Int)) fun v294 =>
       (.br (decide (v294 < (0 : Int))) (
        .leaf false
       ) (
        (.br (!decide (v294 = v271)) (
         .leaf false
        ) (
         (.call (impl_LoadSheet_g v1) fun v295 =>
         (.sum v295 (fun v296 =>
          (.call (laws_eqSheet_g v296 (0 : Int) (0 : Int) ([] : List Nat) v78 (0 : Int) (0 : Int) ([] : List Nat)) fun v298 =>
          (.br (!v298) (
           .leaf false
          ) (
           (.br (!(false == false)) (
            .leaf false
           ) (
            (.call (laws_heldSheet_g ([] : List Nat) (1 : Int)) fun v299 =>
            (.br (decide (v299 < (0 : Int))) (
             .leaf false
            ) (
             (.br (!decide (v299 = v271)) (
              .leaf false
             ) (
              .leaf true
             ))
            )))
           ))
          )))
         ) (fun v297 =>
          (.sum v297 (fun v300 =>
           (.call (laws_eqSheet_g v300.1 v300.2.1 v300.2.2 ([] : List Nat) v78 (0 : Int) (0 : Int) ([] : List Nat)) fun v302 =>
           (.br (!v302) (
            .leaf false
           ) (
            (.br (!(true == false)) (
             .leaf false
            ) (
             (.call (laws_heldSheet_g ([] : List Nat) (1 : Int)) fun v303 =>
             (.br (decide (v303 < (0 : Int))) (
              .leaf false
             ) (
              (.br (!decide (v303 = v271)) (
               .leaf false
              ) (
               .leaf true
              ))
             )))
            ))
           )))
          ) (fun v301 =>
           (.call (laws_eqSheet_g v301.1 v301.2.1 v301.2.2.1 v301.2.2.2 v78 (0 : Int) (0 : Int) ([] : List Nat)) fun v304 =>
           (.br (!v304) (
            .leaf false
           ) (
            (.br (!(true == false)) (
             .leaf false
            ) (
             (.call (laws_heldSheet_g ([] : List Nat) (1 : Int)) fun v305 =>
             (.br (decide (v305 < (0 : Int))) (
              .leaf false
             ) (
              (.br (!decide (v305 = v271)) (
               .leaf false
              ) (
               .leaf true
              ))
             )))
            ))
           )))
          ))
         )))
        ))
       ))))
      ))
     )))
    ) (fun v195 =>
     (.sum v195 (fun v306 =>
      (.call (laws_eqSheet_g v306.1 v306.2.1 v306.2.2 ([] : List Nat) v78 (0 : Int) (0 : Int) ([] : List Nat)) fun v308 =>
      (.br (!v308) (
       .leaf false
      ) (
       (.br (!(true == false)) (
        .leaf false
       ) (
        (.call (laws_markSheet_i1_g (1 : Int)) fun v309 =>
        (.call (laws_heldSheet_g ([] : List Nat) (1 : Int)) fun v310 =>
        (.br (decide (v310 < (0 : Int))) (
         .leaf false
        ) (
         (.br (!decide (v310 = v309)) (
          .leaf false
         ) (
          (.call (impl_LoadSheet_g v1) fun v311 =>
          (.sum v311 (fun v312 =>
           (.call (laws_eqSheet_g v312 (0 : Int) (0 : Int) ([] : List Nat) v78 (0 : Int) (0 : Int) ([] : List Nat)) fun v314 =>
           (.br (!v314) (
            .leaf false
           ) (
            (.br (!(false == false)) (
             .leaf false
            ) (
             (.call (laws_heldSheet_g ([] : List Nat) (1 : Int)) fun v315 =>
             (.br (decide (v315 < (0 : Int))) (
              .leaf false
             ) (
              (.br (!decide (v315 = v309)) (
               .leaf false
              ) (
               .leaf true
              ))
             )))
            ))
           )))
          ) (fun v313 =>
           (.sum v313 (fun v316 =>
            (.call (laws_eqSheet_g v316.1 v316.2.1 v316.2.2 ([] : List Nat) v78 (0 : Int) (0 : Int) ([] : List Nat)) fun v318 =>
            (.br (!v318) (
             .leaf false
            ) (
             (.br (!(true == false)) (
              .leaf false
             ) (
              (.call (laws_heldSheet_g ([] : List Nat) (1 : Int)) fun v319 =>
              (.br (decide (v319 < (0 : Int))) (
               .leaf false
              ) (
               (.br (!decide (v319 = v309)) (
                .leaf false
               ) (
                .leaf true
               ))
              )))
             ))
            )))
           ) (fun v317 =>
            (.call (laws_eqSheet_g v317.1 v317.2.1 v317.2.2.1 v317.2.2.2 v78 (0 : Int) (0 : Int) ([] : List Nat)) fun v320 =>
            (.br (!v320) (
             .leaf false
            ) (
             (.br (!(true == false)) (
              .leaf false
             ) (
              (.call (laws_heldSheet_g ([] : List Nat) (1 : Int)) fun v321 =>
              (.br (decide (v321 < (0 : Int))) (
               .leaf false
              ) (
               (.br (!decide (v321 = v309)) (
                .leaf false
               ) (
                .leaf true
               ))
              )))
             ))
            )))
           ))
          )))
         ))
        ))))
       ))
      )))
     ) (fun v307 =>
      (.call (laws_eqSheet_g v307.1 v307.2.1 v307.2.2.1 v307.2.2.2 v78 (0 : Int) (0 : Int) ([] : List Nat)) fun v322 =>
      (.br (!v322) (
       .leaf false
      ) (
       (.br (!(true == false)) (
        .leaf false
       ) (
        (.call (laws_markSheet_g v307.2.2.2 (1 : Int)) fun v323 =>
        (.grd (decide (v323.2.length = v307.2.2.2.length)) <|
        (.call (laws_heldSheet_g v323.2 (1 : Int)) fun v324 =>
        (.br (decide (v324 < (0 : Int))) (
         .leaf false
        ) (
         (.br (!decide (v324 = v323.1)) (
          .leaf false
         ) (
          (.call (impl_LoadSheet_g v1) fun v325 =>
          (.sum v325 (fun v326 =>
           (.call (laws_eqSheet_g v326 (0 : Int) (0 : Int) ([] : List Nat) v78 (0 : Int) (0 : Int) ([] : List Nat)) fun v328 =>
           (.br (!v328) (
            .leaf false
           ) (
            (.br (!(false == false)) (
             .leaf false
            ) (
             (.call (laws_heldSheet_g v323.2 (1 : Int)) fun v329 =>
             (.br (decide (v329 < (0 : Int))) (
              .leaf false
             ) (
              (.br (!decide (v329 = v323.1)) (
               .leaf false
              ) (
               .leaf true
              ))
             )))
            ))
           )))
          ) (fun v327 =>
           (.sum v327 (fun v330 =>
            (.call (laws_eqSheet_g v330.1 v330.2.1 v330.2.2 ([] : List Nat) v78 (0 : Int) (0 : Int) ([] : List Nat)) fun v332 =>
            (.br (!v332) (
             .leaf false
            ) (
             (.br (!(true == false)) (
              .leaf false
             ) (
              (.call (laws_heldSheet_g v323.2 (1 : Int)) fun v333 =>
              (.br (decide (v333 < (0 : Int))) (
               .leaf false
              ) (
               (.br (!decide (v333 = v323.1)) (
                .leaf false
               ) (
                .leaf true
               ))
              )))
             ))
            )))
           ) (fun v331 =>
            (.call (laws_eqSheet_g v331.1 v331.2.1 v331.2.2.1 v331.2.2.2 v78 (0 : Int) (0 : Int) ([] : List Nat)) fun v334 =>
            (.br (!v334) (
             .leaf false
            ) (
             (.br (!(true == false)) (
              .leaf false
             ) (
              (.call (laws_heldSheet_g v323.2 (1 : Int)) fun v335 =>
              (.br (decide (v335 < (0 : Int))) (
               .leaf false
              ) (
               (.br (!decide (v335 = v323.1)) (
                .leaf false
               ) (
                .leaf true
               ))
              )))
             ))
            )))
           ))
          )))
         ))
        )))))
       ))
      )))
     ))
    )))
   ) (fun v79 =>
    (.call (impl_LoadSheet_g v1) fun v336 =>
    (.sum v336 (fun v337 =>
     (.call (laws_eqSheet_g v337 (0 : Int) (0 : Int) ([] : List Nat) v79.1 v79.2.1 v79.2.2.1 v79.2.2.2) fun v339 =>
     (.br (!v339) (
      .leaf false
     ) (
      (.br (!(false == true)) (
       .leaf false
      ) (
       (.call (laws_markSheet_i1_g (1 : Int)) fun v340 =>
       (.call (laws_heldSheet_g ([] : List Nat) (1 : Int)) fun v341 =>
       (.br (decide (v341 < (0 : Int))) (
        .leaf false
       ) (
        (.br (!decide (v341 = v340)) (
         .leaf false
        ) (
         (.call (impl_LoadSheet_g v1) fun v342 =>
         (.sum v342 (fun v343 =>
          (.call (laws_eqSheet_g v343 (0 : Int) (0 : Int) ([] : List Nat) v79.1 v79.2.1 v79.2.2.1 v79.2.2.2) fun v345 =>
          (.br (!v345) (
           .leaf false
          ) (
           (.br (!(false == true)) (
            .leaf false
           ) (
            (.call (laws_heldSheet_g ([] : List Nat) (1 : Int)) fun v346 =>
            (.br (decide (v346 < (0 : Int))) (
             .leaf false
            ) (
             (.br (!decide (v346 = v340)) (
              .leaf false
             ) (
              .leaf true
             ))
            )))
           ))
          )))
         ) (fun v344 =>
          (.sum v344 (fun v347 =>
           (.call (laws_eqSheet_g v347.1 v347.2.1 v347.2.2 ([] : List Nat) v79.1 v79.2.1 v79.2.2.1 v79.2.2.2) fun v349 =>
           (.br (!v349) (
            .leaf false
           ) (
            (.br (!(true == true)) (
             .leaf false
            ) (
             (.call (laws_heldSheet_g ([] : List Nat) (1 : Int)) fun v350 =>
             (.br (decide (v350 < (0 : Int))) (
              .leaf false
             ) (
              (.br (!decide (v350 = v340)) (
               .leaf false
              ) (
               .leaf true
              ))
             )))
            ))
           )))
          ) (fun v348 =>
           (.call (laws_eqSheet_g v348.1 v348.2.1 v348.2.2.1 v348.2.2.2 v79.1 v79.2.1 v79.2.2.1 v79.2.2.2) fun v351 =>
           (.br (!v351) (
            .leaf false
           ) (
            (.br (!(true == true)) (
             .leaf false
            ) (
             (.call (laws_heldSheet_g ([] : List Nat) (1 : Int)) fun v352 =>
             (.br (decide (v352 < (0 : Int))) (
              .leaf false
             ) (
              (.br (!decide (v352 = v340)) (
               .leaf false
              ) (
               .leaf true
              ))
             )))
            ))
           )))
          ))
         )))
        ))
       ))))
      ))
     )))
    ) (fun v338 =>
     (.sum v338 (fun v353 =>
      (.call (laws_eqSheet_g v353.1 v353.2.1 v353.2.2 ([] : List Nat) v79.1 v79.2.1 v79.2.2.1 v79.2.2.2) fun v355 =>
      (.br (!v355) (
       .leaf false
      ) (
       (.br (!(true == true)) (
        .leaf false
       ) (
        (.call (laws_markSheet_i1_g (1 : Int)) fun v356 =>
        (.call (laws_heldSheet_g ([] : List Nat) (1 : Int)) fun v357 =>
        (.br (decide (v357 < (0 : Int))) (
         .leaf false
        ) (
         (.br (!decide (v357 = v356)) (
          .leaf false
         ) (
          (.call (impl_LoadSheet_g v1) fun v358 =>
          (.sum v358 (fun v359 =>
           (.call (laws_eqSheet_g v359 (0 : Int) (0 : Int) ([] : List Nat) v79.1 v79.2.1 v79.2.2.1 v79.2.2.2) fun v361 =>
           (.br (!v361) (
            .leaf false
           ) (
            (.br (!(false == true)) (
             .leaf false
            ) (
             (.call (laws_heldSheet_g ([] : List Nat) (1 : Int)) fun v362 =>
             (.br (decide (v362 < (0 : Int))) (
              .leaf false
             ) (
              (.br (!decide (v362 = v356)) (
               .leaf false
              ) (
               .leaf true
              ))
             )))
            ))
           )))
          ) (fun v360 =>
           (.sum v360 (fun v363 =>
            (.call (laws_eqSheet_g v363.1 v363.2.1 v363.2.2 ([] : List Nat) v79.1 v79.2.1 v79.2.2.1 v79.2.2.2) fun v365 =>
            (.br (!v365) (
             .leaf false
            ) (
             (.br (!(true == true)) (
              .leaf false
             ) (
              (.call (laws_heldSheet_g ([] : List Nat) (1 : Int)) fun v366 =>
              (.br (decide (v366 < (0 : Int))) (
               .leaf false
              ) (
               (.br (!decide (v366 = v356)) (
                .leaf false
               ) (
                .leaf true
               ))
              )))
             ))
            )))
           ) (fun v364 =>
            (.call (laws_eqSheet_g v364.1 v364.2.1 v364.2.2.1 v364.2.2.2 v79.1 v79.2.1 v79.2.2.1 v79.2.2.2) fun v367 =>
            (.br (!v367) (
             .leaf false
            ) (
             (.br (!(true == true)) (
              .leaf false
             ) (
              (.call (laws_heldSheet_g ([] : List Nat) (1 : Int)) fun v368 =>
              (.br (decide (v368 < (0 : Int))) (
               .leaf false
              ) (
               (.br (!decide (v368 = v356)) (
                .leaf false
               ) (
                .leaf true
               ))
              )))
             ))
            )))
           ))
          )))
         ))
        ))))
       ))
      )))
     ) (fun v354 =>
      (.call (laws_eqSheet_g v354.1 v354.2.1 v354.2.2.1 v354.2.2.2 v79.1 v79.2.1 v79.2.2.1 v79.2.2.2) fun v369 =>
      (.br (!v369) (
       .leaf false
      ) (
       (.br (!(true == true)) (
        .leaf false
       ) (
        (.call (laws_markSheet_g v354.2.2.2 (1 : Int)) fun v370 =>
        (.grd (decide (v370.2.length = v354.2.2.2.length)) <|
        (.call (laws_heldSheet_g v370.2 (1 : Int)) fun v371 =>
        (.br (decide (v371 < (0 : Int))) (
         .leaf false
        ) (
         (.br (!decide (v371 = v370.1)) (
          .leaf false
         ) (
          (.call (impl_LoadSheet_g v1) fun v372 =>
          (.sum v372 (fun v373 =>
           (.call (laws_eqSheet_g v373 (0 : Int) (0 : Int) ([] : List Nat) v79.1 v79.2.1 v79.2.2.1 v79.2.2.2) fun v375 =>
           (.br (!v375) (
            .leaf false
           ) (
            (.br (!(false == true)) (
             .leaf false
            ) (
             (.call (laws_heldSheet_g v370.2 (1 : Int)) fun v376 =>
             (.br (decide (v376 < (0 : Int))) (
              .leaf false
             ) (
              (.br (!decide (v376 = v370.1)) (
               .leaf false
              ) (
               .leaf true
              ))
             )))
            ))
           )))
          ) (fun v374 =>
           (.sum v374 (fun v377 =>
            (.call (laws_eqSheet_g v377.1 v377.2.1 v377.2.2 ([] : List Nat) v79.1 v79.2.1 v79.2.2.1 v79.2.2.2) fun v379 =>
            (.br (!v379) (
             .leaf false
            ) (
             (.br (!(true == true)) (
              .leaf false
             ) (
              (.call (laws_heldSheet_g v370.2 (1 : Int)) fun v380 =>
              (.br (decide (v380 < (0 : Int))) (
               .leaf false
              ) (
               (.br (!decide (v380 = v370.1)) (
                .leaf false
               ) (
                .leaf true
               ))
              )))
             ))
            )))
           ) (fun v378 =>
            (.call (laws_eqSheet_g v378.1 v378.2.1 v378.2.2.1 v378.2.2.2 v79.1 v79.2.1 v79.2.2.1 v79.2.2.2) fun v381 =>
            (.br (!v381) (
             .leaf false
            ) (
             (.br (!(true == true)) (
              .leaf false
             ) (
              (.call (laws_heldSheet_g v370.2 (1 : Int)) fun v382 =>
              (.br (decide (v382 < (0 : Int))) (
               .leaf false
              ) (
               (.br (!decide (v382 = v370.1)) (
                .leaf false
               ) (
                .leaf true
               ))
              )))
             ))
            )))
           ))
          )))
         ))
        )))))
       ))
      )))
     ))
    )))
   )))
  ))

noncomputable def laws_FnExactLoadSheet_g (v1 : ByteArray) : Option (Bool) := (laws_FnExactLoadSheet_T v1).run
def laws_FnExactLoadSheet_enc (v1 : ByteArray) (y : Bool) : Rs := (.bool y, [])
theorem laws_FnExactLoadSheet_den (v1 : ByteArray) : (den TT (tabD laws_FnExactLoadSheet_tab) (tabM laws_FnExactLoadSheet_tab) (laws_FnExactLoadSheet_LO v1) (codeOf Try.f4) ([.str v1] ++ List.replicate (Try.f4.ntmps - ([.str v1] : List DV).length) .undef) []).bind (retD TT Try.f4.results.toList 0) = (laws_FnExactLoadSheet_T v1).bind fun y => .leaf (laws_FnExactLoadSheet_enc v1 y) := by kernel_rfl
theorem laws_FnExactLoadSheet_fn (v1 : ByteArray) (F : Fr) (hm : F.ids.length = 0) (h0 : St F [] F.H0) (hA : DVs.Ok F [] [.str v1]) {y : Bool} (hy : laws_FnExactLoadSheet_g v1 = some y) : ∃ H', FnOk Try.prog 4 (DVs.av F [.str v1]) F.H0 ((laws_FnExactLoadSheet_enc v1 y).1.av F) H' ∧ St F (laws_FnExactLoadSheet_enc v1 y).2 H' ∧ (laws_FnExactLoadSheet_enc v1 y).1.Ok F (laws_FnExactLoadSheet_enc v1 y).2 :=
  fn_fin tok laws_FnExactLoadSheet_hO mixed Try.func4 Try.call4 (by kernel_rfl) (LoopsOk_eq (l := []) (by kernel_rfl) trivial) (laws_FnExactLoadSheet_den v1) hy hm h0 hA
noncomputable def laws_FnExactLoadSheet_F : DFn := fun args L =>
  match args with
  | [.str v1] =>
    .call (laws_FnExactLoadSheet_g v1) fun y => .leaf (.bool y, L)
  | _ => .fail
theorem laws_FnExactLoadSheet_Fok : COk Try.prog 4 laws_FnExactLoadSheet_F true := by
  intro F L H args r L' hs ha hr
  unfold laws_FnExactLoadSheet_F at hr
  split at hr
  · rename_i v1
    simp only [Tree.run] at hr
    obtain ⟨y, hy, hr⟩ := Option.bind_eq_some_iff.1 hr
    simp only [Tree.run, Option.some.injEq, Prod.mk.injEq] at hr
    obtain ⟨rfl, rfl⟩ := hr
    exact call_ok0 hs (fun k => (([] : List AV)[k]?).getD .top) [.str v1] [.str v1] (fun F' h0 hi hρ => ⟨by simp [DVs.av, DV.av, BR.av, hρ], laws_FnExactLoadSheet_fn v1 F' (by rw [hi]; rfl) (st_nil hi) ⟨trivial, trivial⟩ hy⟩) rfl
  · cases hr
end Go.Proofs.Ythdmkdkbfhoahaa.AM
