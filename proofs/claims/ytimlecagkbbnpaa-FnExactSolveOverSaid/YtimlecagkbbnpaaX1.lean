/- Functions: what they come to. -/
import Derived.Test.YtimlecagkbbnpaaX0
set_option maxRecDepth 100000
set_option maxHeartbeats 4000000
set_option linter.unusedSimpArgs false
set_option linter.unusedVariables false
namespace Go.Proofs.Ytimlecagkbbnpaa.AM
open Go.Proofs
/-! (impl.Whole).over -/
noncomputable def impl_Whole_over_l2_T (v1083 : Int) (v1155 : Int) (v1156 : Int) (v1158 : List (List Int)) (v1159 : List Nat) (s : Int × (List Int)) : Tree ((Int × (List Int)) ⊕ ((List Int))) :=
  (.br (decide (s.1 < v1156)) (
   (.grd (inb s.1 ((s.2).length)) <|
   (.call (impl_rest_g (nth s.2 (Int.toNat s.1)) v1083) fun v1161 =>
   (.grd (inb s.1 ((s.2).length)) <|
   .leaf (.inl (IntKind.i64.wrap (s.1 + (1 : Int)), List.set s.2 (Int.toNat s.1) v1161)))))
  ) (
   .leaf (.inr s.2)
  ))

noncomputable def impl_Whole_over_l2_g (v1083 : Int) (v1155 : Int) (v1156 : Int) (v1158 : List (List Int)) (v1159 : List Nat) (s0 : Int × (List Int)) : Option ((List Int)) := whileM (fun s => (impl_Whole_over_l2_T v1083 v1155 v1156 v1158 v1159 s).run) s0
def impl_Whole_over_l2_E (v1080 : Int) (v1081 : Int) (v1082 : List Int) (v1083 : Int) (v1084 : List Int) (v1155 : Int) (v1156 : Int) (v1158 : List (List Int)) (v1159 : List Nat) (s : Int × (List Int)) : Sd := ([.top, .int .i64 v1083, .bslc (BR.root 1) (.i64 v1084), .ptr 0 (0 : Nat) 0 (3 : Nat), .top, .top, .top, .top, .top, .nest 1 0 1 ((v1159).length), .own 2 0 ((([] : List Int)).length), .int .i64 (1 : Int), .top, .own 3 0 ((s.2).length), .top, .top, .top, .top, .top, .top, .top, .top, .top, .top, .top, .top, .top, .top, .top, .int .i64 v1080, .int .i64 v1155, .top, .top, .top, .top, .top, .top, .top, .top, .top, .top, .top, .top, .top, .top, .own 3 0 ((s.2).length), .int .i64 v1156, .int .i64 s.1, .top, .top, .top, .top, .top, .top, .top, .top, .top, .top, .top, .top, .top, .top, .top, .top, .top, .top, .top, .top, .top, .top, .top, .top, .top, .top, .top, .top, .top, .top, .top, .top, .top, .top, .top, .top, .top, .top, .top, .top, .top, .top, .top, .top, .top, .top, .top, .top, .top, .top, .top, .top, .top, .top, .top, .top, .top, .top, .top, .top, .top, .top, .top, .top, .top, .top, .top, .top, .top, .top, .top, .top, .top, .top, .top, .top, .top, .top, .top, .top, .top, .top, .top, .top, .top, .top, .top, .top, .top, .top, .top, .top, .top, .top, .top, .top, .top, .top, .top, .top, .top, .top, .top, .top, .top, .top, .top, .top, .top, .top, .top, .top, .top, .top, .top, .top, .top, .top, .top, .top, .top, .top, .top, .top, .top, .top, .top, .top, .top, .top, .top, .top, .top, .top, .top, .top, .top, .top, .top, .top, .top, .top, .top, .top, .top, .top, .top, .top, .top, .top, .top, .top, .top, .top, .top, .top, .top, .top], [.gen [.int .i64 v1080, .int .i64 v1081, .bslc (BR.root 0) (.i64 v1082)] false 0, .nest [.sl (.i64 v1158) v1159] false 0, .row (.i64 ([] : List Int)) 0, .row (.i64 s.2) 0])
def impl_Whole_over_l2_X (v1080 : Int) (v1081 : Int) (v1082 : List Int) (v1083 : Int) (v1084 : List Int) (v1155 : Int) (v1156 : Int) (v1158 : List (List Int)) (v1159 : List Nat) (x : (List Int)) : Out := (.normal, [.top, .int .i64 v1083, .bslc (BR.root 1) (.i64 v1084), .ptr 0 (0 : Nat) 0 (3 : Nat), .top, .top, .top, .top, .top, .nest 1 0 1 ((v1159).length), .own 2 0 ((([] : List Int)).length), .int .i64 (1 : Int), .top, .own 3 0 ((x).length), .top, .top, .top, .top, .top, .top, .top, .top, .top, .top, .top, .top, .top, .top, .top, .int .i64 v1080, .int .i64 v1155, .top, .top, .top, .top, .top, .top, .top, .top, .top, .top, .top, .top, .top, .top, .top, .top, .top, .top, .top, .top, .top, .top, .top, .top, .top, .top, .top, .top, .top, .top, .top, .top, .top, .top, .top, .top, .top, .top, .top, .top, .top, .top, .top, .top, .top, .top, .top, .top, .top, .top, .top, .top, .top, .top, .top, .top, .top, .top, .top, .top, .top, .top, .top, .top, .top, .top, .top, .top, .top, .top, .top, .top, .top, .top, .top, .top, .top, .top, .top, .top, .top, .top, .top, .top, .top, .top, .top, .top, .top, .top, .top, .top, .top, .top, .top, .top, .top, .top, .top, .top, .top, .top, .top, .top, .top, .top, .top, .top, .top, .top, .top, .top, .top, .top, .top, .top, .top, .top, .top, .top, .top, .top, .top, .top, .top, .top, .top, .top, .top, .top, .top, .top, .top, .top, .top, .top, .top, .top, .top, .top, .top, .top, .top, .top, .top, .top, .top, .top, .top, .top, .top, .top, .top, .top, .top, .top, .top, .top, .top, .top, .top, .top, .top, .top, .top, .top, .top, .top, .top, .top, .top, .top, .top, .top, .top], [.gen [.int .i64 v1080, .int .i64 v1081, .bslc (BR.root 0) (.i64 v1082)] false 0, .nest [.sl (.i64 v1158) v1159] false 0, .row (.i64 ([] : List Int)) 0, .row (.i64 x) 0])
def impl_Whole_over_l2_kill : List Nat := [1, 0, 0, 0, 1, 1, 1, 1, 1, 0, 0, 0, 1, 0, 1, 1, 1, 1, 1, 1, 1, 1, 1, 1, 1, 1, 1, 1, 1, 0, 0, 1, 1, 1, 1, 1, 1, 1, 1, 1, 1, 1, 1, 1, 1, 0, 0, 0, 1, 1, 1, 1, 1, 1, 1, 1, 1, 1, 1, 1, 1, 1, 1, 1, 1, 1, 1, 1, 1, 1, 1, 1, 1, 1, 1, 1, 1, 1, 1, 1, 1, 1, 1, 1, 1, 1, 1, 1, 1, 1, 1, 1, 1, 1, 1, 1, 1, 1, 1, 1, 1, 1, 1, 1, 1, 1, 1, 1, 1, 1, 1, 1, 1, 1, 1, 1, 1, 1, 1, 1, 1, 1, 1, 1, 1, 1, 1, 1, 1, 1, 1, 1, 1, 1, 1, 1, 1, 1, 1, 1, 1, 1, 1, 1, 1, 1, 1, 1, 1, 1, 1, 1, 1, 1, 1, 1, 1, 1, 1, 1, 1, 1, 1, 1, 1, 1, 1, 1, 1, 1, 1, 1, 1, 1, 1, 1, 1, 1, 1, 1, 1, 1, 1, 1, 1, 1, 1, 1, 1, 1, 1, 1, 1, 1, 1, 1, 1, 1, 1, 1, 1, 1, 1, 1, 1, 1]
def impl_Whole_over_l2_nx : Exit → List Nat
  | .exit 0 => [1, 0, 1, 0, 1, 1, 1, 1, 1, 0, 0, 0, 1, 1, 1, 1, 1, 1, 1, 1, 1, 1, 1, 1, 1, 1, 1, 1, 1, 1, 1, 1, 1, 1, 1, 1, 1, 1, 1, 1, 1, 1, 1, 1, 1, 1, 1, 1, 1, 1, 1, 1, 1, 1, 1, 1, 1, 1, 1, 1, 1, 1, 1, 1, 1, 1, 1, 1, 1, 1, 1, 1, 1, 1, 1, 1, 1, 1, 1, 1, 1, 1, 1, 1, 1, 1, 1, 1, 1, 1, 1, 1, 1, 1, 1, 1, 1, 1, 1, 1, 1, 1, 1, 1, 1, 1, 1, 1, 1, 1, 1, 1, 1, 1, 1, 1, 1, 1, 1, 1, 1, 1, 1, 1, 1, 1, 1, 1, 1, 1, 1, 1, 1, 1, 1, 1, 1, 1, 1, 1, 1, 1, 1, 1, 1, 1, 1, 1, 1, 1, 1, 1, 1, 1, 1, 1, 1, 1, 1, 1, 1, 1, 1, 1, 1, 1, 1, 1, 1, 1, 1, 1, 1, 1, 1, 1, 1, 1, 1, 1, 1, 1, 1, 1, 1, 1, 1, 1, 1, 1, 1, 1, 1, 1, 1, 1, 1, 1, 1, 1, 1, 1, 1, 1, 1, 1]
  | .exit 1 => [1, 0, 0, 0, 1, 1, 1, 1, 1, 0, 0, 0, 1, 1, 1, 1, 1, 1, 1, 1, 1, 1, 1, 1, 1, 1, 1, 1, 1, 0, 0, 1, 1, 1, 1, 1, 1, 1, 1, 1, 1, 1, 1, 1, 1, 1, 1, 1, 1, 1, 1, 1, 1, 1, 1, 1, 1, 1, 1, 1, 1, 1, 1, 1, 1, 1, 1, 1, 1, 1, 1, 1, 1, 1, 1, 1, 1, 1, 1, 1, 1, 1, 1, 1, 1, 1, 1, 1, 1, 1, 1, 1, 1, 1, 1, 1, 1, 1, 1, 1, 1, 1, 1, 1, 1, 1, 1, 1, 1, 1, 1, 1, 1, 1, 1, 1, 1, 1, 1, 1, 1, 1, 1, 1, 1, 1, 1, 1, 1, 1, 1, 1, 1, 1, 1, 1, 1, 1, 1, 1, 1, 1, 1, 1, 1, 1, 1, 1, 1, 1, 1, 1, 1, 1, 1, 1, 1, 1, 1, 1, 1, 1, 1, 1, 1, 1, 1, 1, 1, 1, 1, 1, 1, 1, 1, 1, 1, 1, 1, 1, 1, 1, 1, 1, 1, 1, 1, 1, 1, 1, 1, 1, 1, 1, 1, 1, 1, 1, 1, 1, 1, 1, 1, 1, 1, 1]
  | .exit 2 => [1, 0, 0, 0, 1, 1, 1, 1, 1, 0, 0, 0, 1, 0, 1, 1, 1, 1, 1, 1, 1, 1, 1, 1, 1, 1, 1, 1, 1, 0, 0, 1, 1, 1, 1, 1, 1, 1, 1, 1, 1, 1, 1, 1, 1, 1, 1, 1, 1, 1, 1, 1, 1, 1, 1, 1, 1, 1, 1, 1, 1, 1, 1, 1, 1, 1, 1, 1, 1, 1, 1, 1, 1, 1, 1, 1, 1, 1, 1, 1, 1, 1, 1, 1, 1, 1, 1, 1, 1, 1, 1, 1, 1, 1, 1, 1, 1, 1, 1, 1, 1, 1, 1, 1, 1, 1, 1, 1, 1, 1, 1, 1, 1, 1, 1, 1, 1, 1, 1, 1, 1, 1, 1, 1, 1, 1, 1, 1, 1, 1, 1, 1, 1, 1, 1, 1, 1, 1, 1, 1, 1, 1, 1, 1, 1, 1, 1, 1, 1, 1, 1, 1, 1, 1, 1, 1, 1, 1, 1, 1, 1, 1, 1, 1, 1, 1, 1, 1, 1, 1, 1, 1, 1, 1, 1, 1, 1, 1, 1, 1, 1, 1, 1, 1, 1, 1, 1, 1, 1, 1, 1, 1, 1, 1, 1, 1, 1, 1, 1, 1, 1, 1, 1, 1, 1, 1]
  | .ret => [1, 1, 1, 1, 1, 1, 0, 0, 0, 1, 1, 1, 1, 1, 1, 1, 1, 1, 1, 1, 1, 1, 1, 1, 1, 1, 1, 1, 1, 1, 1, 1, 1, 1, 1, 1, 1, 1, 1, 1, 1, 1, 1, 1, 1, 1, 1, 1, 1, 1, 1, 1, 1, 1, 1, 1, 1, 1, 1, 1, 1, 1, 1, 1, 1, 1, 1, 1, 1, 1, 1, 1, 1, 1, 1, 1, 1, 1, 1, 1, 1, 1, 1, 1, 1, 1, 1, 1, 1, 1, 1, 1, 1, 1, 1, 1, 1, 1, 1, 1, 1, 1, 1, 1, 1, 1, 1, 1, 1, 1, 1, 1, 1, 1, 1, 1, 1, 1, 1, 1, 1, 1, 1, 1, 1, 1, 1, 1, 1, 1, 1, 1, 1, 1, 1, 1, 1, 1, 1, 1, 1, 1, 1, 1, 1, 1, 1, 1, 1, 1, 1, 1, 1, 1, 1, 1, 1, 1, 1, 1, 1, 1, 1, 1, 1, 1, 1, 1, 1, 1, 1, 1, 1, 1, 1, 1, 1, 1, 1, 1, 1, 1, 1, 1, 1, 1, 1, 1, 1, 1, 1, 1, 1, 1, 1, 1, 1, 1, 1, 1, 1, 1, 1, 1, 1, 1]
  | _ => []
noncomputable def impl_Whole_over_l0_T (v1080 : Int) (v1081 : Int) (v1082 : List Int) (v1083 : Int) (v1084 : List Int) (s : Int × (List (List Int)) × (List Nat)) : Tree ((Int × (List (List Int)) × (List Nat)) ⊕ ((List (List Int)) × (List Nat))) :=
  (.br (decide (s.1 < v1080)) (
   (.call (impl_Whole_row_g v1081 v1082 s.1) fun v1140 =>
   (.grd (decide (0 < v1084.length)) <|
   (.grd (inb s.1 v1084.length) <|
   (.grd (fits ((([] : List Int) ++ (AM.sub v1082 (IntKind.i64.wrap (s.1 * v1081)) (IntKind.i64.wrap ((IntKind.i64.wrap (s.1 + (1 : Int))) * v1081)))) ++ ([nth v1084 (Int.toNat s.1)] : List Int)).length) <|
   (.need (some (impl_Whole_over_l2_E v1080 v1081 v1082 v1083 v1084 s.1 ((((([] : List Int) ++ (AM.sub v1082 (IntKind.i64.wrap (s.1 * v1081)) (IntKind.i64.wrap ((IntKind.i64.wrap (s.1 + (1 : Int))) * v1081)))) ++ ([nth v1084 (Int.toNat s.1)] : List Int)).length : Nat) : Int) s.2.1 s.2.2 ((0 : Int), (([] : List Int) ++ (AM.sub v1082 (IntKind.i64.wrap (s.1 * v1081)) (IntKind.i64.wrap ((IntKind.i64.wrap (s.1 + (1 : Int))) * v1081)))) ++ ([nth v1084 (Int.toNat s.1)] : List Int))) = some (impl_Whole_over_l2_E v1080 v1081 v1082 v1083 v1084 s.1 ((((([] : List Int) ++ (AM.sub v1082 (IntKind.i64.wrap (s.1 * v1081)) (IntKind.i64.wrap ((IntKind.i64.wrap (s.1 + (1 : Int))) * v1081)))) ++ ([nth v1084 (Int.toNat s.1)] : List Int)).length : Nat) : Int) s.2.1 s.2.2 ((0 : Int), (([] : List Int) ++ (AM.sub v1082 (IntKind.i64.wrap (s.1 * v1081)) (IntKind.i64.wrap ((IntKind.i64.wrap (s.1 + (1 : Int))) * v1081)))) ++ ([nth v1084 (Int.toNat s.1)] : List Int)))) <|
   (.call (impl_Whole_over_l2_g v1083 s.1 ((((([] : List Int) ++ (AM.sub v1082 (IntKind.i64.wrap (s.1 * v1081)) (IntKind.i64.wrap ((IntKind.i64.wrap (s.1 + (1 : Int))) * v1081)))) ++ ([nth v1084 (Int.toNat s.1)] : List Int)).length : Nat) : Int) s.2.1 s.2.2 ((0 : Int), (([] : List Int) ++ (AM.sub v1082 (IntKind.i64.wrap (s.1 * v1081)) (IntKind.i64.wrap ((IntKind.i64.wrap (s.1 + (1 : Int))) * v1081)))) ++ ([nth v1084 (Int.toNat s.1)] : List Int))) fun v1162 =>
   (.grd (fits (((s.2.2).length) + (1 : Nat))) <|
   .leaf (.inl (IntKind.i64.wrap (s.1 + (1 : Int)), s.2.1 ++ ([v1162] : List (List Int)), s.2.2 ++ [s.2.1.length + 1])))))))))
  ) (
   .leaf (.inr (s.2.1, s.2.2))
  ))

noncomputable def impl_Whole_over_l0_g (v1080 : Int) (v1081 : Int) (v1082 : List Int) (v1083 : Int) (v1084 : List Int) (s0 : Int × (List (List Int)) × (List Nat)) : Option ((List (List Int)) × (List Nat)) := whileM (fun s => (impl_Whole_over_l0_T v1080 v1081 v1082 v1083 v1084 s).run) s0
def impl_Whole_over_l0_E (v1080 : Int) (v1081 : Int) (v1082 : List Int) (v1083 : Int) (v1084 : List Int) (s : Int × (List (List Int)) × (List Nat)) : Sd := ([.top, .int .i64 v1083, .bslc (BR.root 1) (.i64 v1084), .ptr 0 (0 : Nat) 0 (3 : Nat), .top, .top, .top, .top, .top, .nest 1 0 1 ((s.2.2).length), .own 2 0 ((([] : List Int)).length), .int .i64 (1 : Int), .top, .top, .top, .top, .top, .top, .top, .top, .top, .top, .top, .top, .top, .top, .top, .top, .top, .int .i64 v1080, .int .i64 s.1, .top, .top, .top, .top, .top, .top, .top, .top, .top, .top, .top, .top, .top, .top, .top, .top, .top, .top, .top, .top, .top, .top, .top, .top, .top, .top, .top, .top, .top, .top, .top, .top, .top, .top, .top, .top, .top, .top, .top, .top, .top, .top, .top, .top, .top, .top, .top, .top, .top, .top, .top, .top, .top, .top, .top, .top, .top, .top, .top, .top, .top, .top, .top, .top, .top, .top, .top, .top, .top, .top, .top, .top, .top, .top, .top, .top, .top, .top, .top, .top, .top, .top, .top, .top, .top, .top, .top, .top, .top, .top, .top, .top, .top, .top, .top, .top, .top, .top, .top, .top, .top, .top, .top, .top, .top, .top, .top, .top, .top, .top, .top, .top, .top, .top, .top, .top, .top, .top, .top, .top, .top, .top, .top, .top, .top, .top, .top, .top, .top, .top, .top, .top, .top, .top, .top, .top, .top, .top, .top, .top, .top, .top, .top, .top, .top, .top, .top, .top, .top, .top, .top, .top, .top, .top, .top, .top, .top, .top, .top, .top, .top, .top, .top, .top, .top, .top, .top, .top, .top, .top, .top, .top, .top, .top, .top], [.gen [.int .i64 v1080, .int .i64 v1081, .bslc (BR.root 0) (.i64 v1082)] false 0, .nest [.sl (.i64 s.2.1) s.2.2] false 0, .row (.i64 ([] : List Int)) 0])
def impl_Whole_over_l0_X (v1080 : Int) (v1081 : Int) (v1082 : List Int) (v1083 : Int) (v1084 : List Int) (x : (List (List Int)) × (List Nat)) : Out := (.normal, [.top, .int .i64 v1083, .top, .ptr 0 (0 : Nat) 0 (3 : Nat), .top, .top, .top, .top, .top, .nest 1 0 1 ((x.2).length), .own 2 0 ((([] : List Int)).length), .int .i64 (1 : Int), .top, .top, .top, .top, .top, .top, .top, .top, .top, .top, .top, .top, .top, .top, .top, .top, .top, .top, .top, .top, .top, .top, .top, .top, .top, .top, .top, .top, .top, .top, .top, .top, .top, .top, .top, .top, .top, .top, .top, .top, .top, .top, .top, .top, .top, .top, .top, .top, .top, .top, .top, .top, .top, .top, .top, .top, .top, .top, .top, .top, .top, .top, .top, .top, .top, .top, .top, .top, .top, .top, .top, .top, .top, .top, .top, .top, .top, .top, .top, .top, .top, .top, .top, .top, .top, .top, .top, .top, .top, .top, .top, .top, .top, .top, .top, .top, .top, .top, .top, .top, .top, .top, .top, .top, .top, .top, .top, .top, .top, .top, .top, .top, .top, .top, .top, .top, .top, .top, .top, .top, .top, .top, .top, .top, .top, .top, .top, .top, .top, .top, .top, .top, .top, .top, .top, .top, .top, .top, .top, .top, .top, .top, .top, .top, .top, .top, .top, .top, .top, .top, .top, .top, .top, .top, .top, .top, .top, .top, .top, .top, .top, .top, .top, .top, .top, .top, .top, .top, .top, .top, .top, .top, .top, .top, .top, .top, .top, .top, .top, .top, .top, .top, .top, .top, .top, .top, .top, .top, .top, .top, .top, .top, .top, .top], [.gen [.int .i64 v1080, .int .i64 v1081, .bslc (BR.root 0) (.i64 v1082)] false 0, .nest [.sl (.i64 x.1) x.2] false 0, .row (.i64 ([] : List Int)) 0])
def impl_Whole_over_l0_kill : List Nat := [1, 0, 0, 0, 1, 1, 1, 1, 1, 0, 0, 0, 1, 1, 1, 1, 1, 1, 1, 1, 1, 1, 1, 1, 1, 1, 1, 1, 1, 0, 0, 1, 1, 1, 1, 1, 1, 1, 1, 1, 1, 1, 1, 1, 1, 1, 1, 1, 1, 1, 1, 1, 1, 1, 1, 1, 1, 1, 1, 1, 1, 1, 1, 1, 1, 1, 1, 1, 1, 1, 1, 1, 1, 1, 1, 1, 1, 1, 1, 1, 1, 1, 1, 1, 1, 1, 1, 1, 1, 1, 1, 1, 1, 1, 1, 1, 1, 1, 1, 1, 1, 1, 1, 1, 1, 1, 1, 1, 1, 1, 1, 1, 1, 1, 1, 1, 1, 1, 1, 1, 1, 1, 1, 1, 1, 1, 1, 1, 1, 1, 1, 1, 1, 1, 1, 1, 1, 1, 1, 1, 1, 1, 1, 1, 1, 1, 1, 1, 1, 1, 1, 1, 1, 1, 1, 1, 1, 1, 1, 1, 1, 1, 1, 1, 1, 1, 1, 1, 1, 1, 1, 1, 1, 1, 1, 1, 1, 1, 1, 1, 1, 1, 1, 1, 1, 1, 1, 1, 1, 1, 1, 1, 1, 1, 1, 1, 1, 1, 1, 1, 1, 1, 1, 1, 1, 1]
def impl_Whole_over_l0_nx : Exit → List Nat
  | .exit 0 => [1, 0, 1, 0, 1, 1, 1, 1, 1, 0, 0, 0, 1, 1, 1, 1, 1, 1, 1, 1, 1, 1, 1, 1, 1, 1, 1, 1, 1, 1, 1, 1, 1, 1, 1, 1, 1, 1, 1, 1, 1, 1, 1, 1, 1, 1, 1, 1, 1, 1, 1, 1, 1, 1, 1, 1, 1, 1, 1, 1, 1, 1, 1, 1, 1, 1, 1, 1, 1, 1, 1, 1, 1, 1, 1, 1, 1, 1, 1, 1, 1, 1, 1, 1, 1, 1, 1, 1, 1, 1, 1, 1, 1, 1, 1, 1, 1, 1, 1, 1, 1, 1, 1, 1, 1, 1, 1, 1, 1, 1, 1, 1, 1, 1, 1, 1, 1, 1, 1, 1, 1, 1, 1, 1, 1, 1, 1, 1, 1, 1, 1, 1, 1, 1, 1, 1, 1, 1, 1, 1, 1, 1, 1, 1, 1, 1, 1, 1, 1, 1, 1, 1, 1, 1, 1, 1, 1, 1, 1, 1, 1, 1, 1, 1, 1, 1, 1, 1, 1, 1, 1, 1, 1, 1, 1, 1, 1, 1, 1, 1, 1, 1, 1, 1, 1, 1, 1, 1, 1, 1, 1, 1, 1, 1, 1, 1, 1, 1, 1, 1, 1, 1, 1, 1, 1, 1]
  | .ret => [1, 1, 1, 1, 1, 1, 0, 0, 0, 1, 1, 1, 1, 1, 1, 1, 1, 1, 1, 1, 1, 1, 1, 1, 1, 1, 1, 1, 1, 1, 1, 1, 1, 1, 1, 1, 1, 1, 1, 1, 1, 1, 1, 1, 1, 1, 1, 1, 1, 1, 1, 1, 1, 1, 1, 1, 1, 1, 1, 1, 1, 1, 1, 1, 1, 1, 1, 1, 1, 1, 1, 1, 1, 1, 1, 1, 1, 1, 1, 1, 1, 1, 1, 1, 1, 1, 1, 1, 1, 1, 1, 1, 1, 1, 1, 1, 1, 1, 1, 1, 1, 1, 1, 1, 1, 1, 1, 1, 1, 1, 1, 1, 1, 1, 1, 1, 1, 1, 1, 1, 1, 1, 1, 1, 1, 1, 1, 1, 1, 1, 1, 1, 1, 1, 1, 1, 1, 1, 1, 1, 1, 1, 1, 1, 1, 1, 1, 1, 1, 1, 1, 1, 1, 1, 1, 1, 1, 1, 1, 1, 1, 1, 1, 1, 1, 1, 1, 1, 1, 1, 1, 1, 1, 1, 1, 1, 1, 1, 1, 1, 1, 1, 1, 1, 1, 1, 1, 1, 1, 1, 1, 1, 1, 1, 1, 1, 1, 1, 1, 1, 1, 1, 1, 1, 1, 1]
  | _ => []
noncomputable def impl_Whole_over_l6_T (v1878 : Int) (v1879 : Int) (v1880 : Int) (v1882 : List (List Int)) (v1883 : List Nat) (v1884 : List Int) (s : Int) : Tree ((Int) ⊕ (Int)) :=
  (.br (decide (s < (((v1883).length : Nat) : Int))) (
   (.grd (inb s ((v1883).length)) <|
   (.grd (inb v1879 ((nget v1882 (nth v1883 (Int.toNat s))).length)) <|
   (.br (decide (nth (nget v1882 (nth v1883 (Int.toNat s))) (Int.toNat v1879) = (0 : Int))) (
    .leaf (.inl (IntKind.i64.wrap (s + (1 : Int))))
   ) (
    .leaf (.inr s)
   ))))
  ) (
   .leaf (.inr s)
  ))

noncomputable def impl_Whole_over_l6_g (v1878 : Int) (v1879 : Int) (v1880 : Int) (v1882 : List (List Int)) (v1883 : List Nat) (v1884 : List Int) (s0 : Int) : Option (Int) := whileM (fun s => (impl_Whole_over_l6_T v1878 v1879 v1880 v1882 v1883 v1884 s).run) s0
def impl_Whole_over_l6_E (v1080 : Int) (v1081 : Int) (v1082 : List Int) (v1083 : Int) (v1084 : List Int) (v1878 : Int) (v1879 : Int) (v1880 : Int) (v1882 : List (List Int)) (v1883 : List Nat) (v1884 : List Int) (s : Int) : Sd := ([.top, .int .i64 v1083, .top, .top, .top, .top, .top, .top, .top, .nest 0 0 1 ((v1883).length), .own 1 0 ((v1884).length), .int .i64 v1878, .top, .top, .top, .top, .int .i64 v1879, .int .i64 v1880, .int .i64 s, .top, .top, .top, .top, .top, .top, .top, .top, .top, .top, .top, .top, .top, .top, .top, .top, .top, .top, .top, .top, .top, .top, .top, .top, .top, .top, .top, .top, .top, .top, .top, .top, .top, .top, .top, .top, .top, .top, .top, .top, .top, .top, .top, .top, .top, .top, .int .i64 v1081, .int .i64 v1879, .top, .top, .top, .top, .top, .top, .top, .top, .top, .top, .top, .top, .top, .top, .top, .top, .top, .top, .top, .top, .top, .top, .top, .top, .top, .top, .top, .top, .top, .top, .top, .top, .top, .top, .top, .top, .top, .top, .top, .top, .top, .top, .top, .top, .top, .top, .top, .top, .top, .top, .top, .top, .top, .top, .top, .top, .top, .top, .top, .top, .top, .top, .top, .top, .top, .top, .top, .top, .top, .top, .top, .top, .top, .top, .top, .top, .top, .top, .top, .top, .top, .top, .top, .top, .top, .top, .top, .top, .top, .top, .top, .top, .top, .top, .top, .top, .top, .top, .top, .top, .top, .top, .top, .top, .top, .top, .top, .top, .top, .top, .top, .top, .top, .top, .top, .top, .top, .top, .top, .top, .top, .top, .top, .top, .top, .top, .top, .top, .top, .top, .top, .top, .top, .top, .top, .top, .top, .top, .top], [.nest [.sl (.i64 v1882) v1883] false 0, .row (.i64 v1884) 0])
def impl_Whole_over_l6_X (v1080 : Int) (v1081 : Int) (v1082 : List Int) (v1083 : Int) (v1084 : List Int) (v1878 : Int) (v1879 : Int) (v1880 : Int) (v1882 : List (List Int)) (v1883 : List Nat) (v1884 : List Int) (x : Int) : Out := (.normal, [.top, .int .i64 v1083, .top, .top, .top, .top, .top, .top, .top, .nest 0 0 1 ((v1883).length), .own 1 0 ((v1884).length), .int .i64 v1878, .top, .top, .top, .top, .int .i64 v1879, .int .i64 v1880, .int .i64 x, .top, .top, .top, .top, .top, .top, .top, .top, .top, .top, .top, .top, .top, .top, .top, .top, .top, .top, .top, .top, .top, .top, .top, .top, .top, .top, .top, .top, .top, .top, .top, .top, .top, .top, .top, .top, .top, .top, .top, .top, .top, .top, .top, .top, .top, .top, .int .i64 v1081, .int .i64 v1879, .top, .top, .top, .top, .top, .top, .top, .top, .top, .top, .top, .top, .top, .top, .top, .top, .top, .top, .top, .top, .top, .top, .top, .top, .top, .top, .top, .top, .top, .top, .top, .top, .top, .top, .top, .top, .top, .top, .top, .top, .top, .top, .top, .top, .top, .top, .top, .top, .top, .top, .top, .top, .top, .top, .top, .top, .top, .top, .top, .top, .top, .top, .top, .top, .top, .top, .top, .top, .top, .top, .top, .top, .top, .top, .top, .top, .top, .top, .top, .top, .top, .top, .top, .top, .top, .top, .top, .top, .top, .top, .top, .top, .top, .top, .top, .top, .top, .top, .top, .top, .top, .top, .top, .top, .top, .top, .top, .top, .top, .top, .top, .top, .top, .top, .top, .top, .top, .top, .top, .top, .top, .top, .top, .top, .top, .top, .top, .top, .top, .top, .top, .top, .top, .top, .top, .top, .top, .top, .top], [.nest [.sl (.i64 v1882) v1883] false 0, .row (.i64 v1884) 0])
def impl_Whole_over_l6_kill : List Nat := [1, 0, 1, 1, 1, 1, 1, 1, 1, 0, 0, 0, 1, 1, 1, 1, 0, 0, 0, 1, 1, 1, 1, 1, 1, 1, 1, 1, 1, 1, 1, 1, 1, 1, 1, 1, 1, 1, 1, 1, 1, 1, 1, 1, 1, 1, 1, 1, 1, 1, 1, 1, 1, 1, 1, 1, 1, 1, 1, 1, 1, 1, 1, 1, 1, 0, 0, 1, 1, 1, 1, 1, 1, 1, 1, 1, 1, 1, 1, 1, 1, 1, 1, 1, 1, 1, 1, 1, 1, 1, 1, 1, 1, 1, 1, 1, 1, 1, 1, 1, 1, 1, 1, 1, 1, 1, 1, 1, 1, 1, 1, 1, 1, 1, 1, 1, 1, 1, 1, 1, 1, 1, 1, 1, 1, 1, 1, 1, 1, 1, 1, 1, 1, 1, 1, 1, 1, 1, 1, 1, 1, 1, 1, 1, 1, 1, 1, 1, 1, 1, 1, 1, 1, 1, 1, 1, 1, 1, 1, 1, 1, 1, 1, 1, 1, 1, 1, 1, 1, 1, 1, 1, 1, 1, 1, 1, 1, 1, 1, 1, 1, 1, 1, 1, 1, 1, 1, 1, 1, 1, 1, 1, 1, 1, 1, 1, 1, 1, 1, 1, 1, 1, 1, 1, 1, 1]
def impl_Whole_over_l6_nx : Exit → List Nat
  | .exit 4 => [1, 1, 1, 1, 1, 1, 1, 1, 1, 0, 0, 0, 1, 1, 1, 1, 1, 1, 1, 1, 1, 1, 1, 1, 1, 1, 1, 1, 1, 1, 1, 1, 1, 1, 1, 1, 1, 1, 1, 1, 1, 1, 1, 1, 1, 1, 1, 1, 1, 1, 1, 1, 1, 1, 1, 1, 1, 1, 1, 1, 1, 1, 1, 1, 1, 1, 1, 1, 1, 1, 1, 1, 1, 1, 1, 1, 1, 1, 1, 1, 1, 1, 1, 1, 1, 1, 1, 1, 1, 1, 1, 1, 1, 1, 1, 1, 1, 1, 1, 1, 1, 1, 1, 1, 1, 1, 1, 1, 1, 1, 1, 1, 1, 1, 1, 1, 1, 1, 1, 1, 1, 1, 1, 1, 1, 1, 1, 1, 1, 1, 1, 1, 1, 1, 1, 1, 1, 1, 1, 1, 1, 1, 1, 1, 1, 1, 1, 1, 1, 1, 1, 1, 1, 1, 1, 1, 1, 1, 1, 1, 1, 1, 1, 1, 1, 1, 1, 1, 1, 1, 1, 1, 1, 1, 1, 1, 1, 1, 1, 1, 1, 1, 1, 1, 1, 1, 1, 1, 1, 1, 1, 1, 1, 1, 1, 1, 1, 1, 1, 1, 1, 1, 1, 1, 1, 1]
  | .exit 5 => [1, 0, 1, 1, 1, 1, 1, 1, 1, 0, 0, 0, 1, 1, 1, 1, 1, 1, 1, 1, 1, 1, 1, 1, 1, 1, 1, 1, 1, 1, 1, 1, 1, 1, 1, 1, 1, 1, 1, 1, 1, 1, 1, 1, 1, 1, 1, 1, 1, 1, 1, 1, 1, 1, 1, 1, 1, 1, 1, 1, 1, 1, 1, 1, 1, 0, 0, 1, 1, 1, 1, 1, 1, 1, 1, 1, 1, 1, 1, 1, 1, 1, 1, 1, 1, 1, 1, 1, 1, 1, 1, 1, 1, 1, 1, 1, 1, 1, 1, 1, 1, 1, 1, 1, 1, 1, 1, 1, 1, 1, 1, 1, 1, 1, 1, 1, 1, 1, 1, 1, 1, 1, 1, 1, 1, 1, 1, 1, 1, 1, 1, 1, 1, 1, 1, 1, 1, 1, 1, 1, 1, 1, 1, 1, 1, 1, 1, 1, 1, 1, 1, 1, 1, 1, 1, 1, 1, 1, 1, 1, 1, 1, 1, 1, 1, 1, 1, 1, 1, 1, 1, 1, 1, 1, 1, 1, 1, 1, 1, 1, 1, 1, 1, 1, 1, 1, 1, 1, 1, 1, 1, 1, 1, 1, 1, 1, 1, 1, 1, 1, 1, 1, 1, 1, 1, 1]
  | .exit 6 => [1, 0, 1, 1, 1, 1, 1, 1, 1, 0, 0, 0, 1, 1, 1, 1, 0, 0, 0, 1, 1, 1, 1, 1, 1, 1, 1, 1, 1, 1, 1, 1, 1, 1, 1, 1, 1, 1, 1, 1, 1, 1, 1, 1, 1, 1, 1, 1, 1, 1, 1, 1, 1, 1, 1, 1, 1, 1, 1, 1, 1, 1, 1, 1, 1, 0, 0, 1, 1, 1, 1, 1, 1, 1, 1, 1, 1, 1, 1, 1, 1, 1, 1, 1, 1, 1, 1, 1, 1, 1, 1, 1, 1, 1, 1, 1, 1, 1, 1, 1, 1, 1, 1, 1, 1, 1, 1, 1, 1, 1, 1, 1, 1, 1, 1, 1, 1, 1, 1, 1, 1, 1, 1, 1, 1, 1, 1, 1, 1, 1, 1, 1, 1, 1, 1, 1, 1, 1, 1, 1, 1, 1, 1, 1, 1, 1, 1, 1, 1, 1, 1, 1, 1, 1, 1, 1, 1, 1, 1, 1, 1, 1, 1, 1, 1, 1, 1, 1, 1, 1, 1, 1, 1, 1, 1, 1, 1, 1, 1, 1, 1, 1, 1, 1, 1, 1, 1, 1, 1, 1, 1, 1, 1, 1, 1, 1, 1, 1, 1, 1, 1, 1, 1, 1, 1, 1]
  | .ret => [1, 1, 1, 1, 1, 1, 0, 0, 0, 1, 1, 1, 1, 1, 1, 1, 1, 1, 1, 1, 1, 1, 1, 1, 1, 1, 1, 1, 1, 1, 1, 1, 1, 1, 1, 1, 1, 1, 1, 1, 1, 1, 1, 1, 1, 1, 1, 1, 1, 1, 1, 1, 1, 1, 1, 1, 1, 1, 1, 1, 1, 1, 1, 1, 1, 1, 1, 1, 1, 1, 1, 1, 1, 1, 1, 1, 1, 1, 1, 1, 1, 1, 1, 1, 1, 1, 1, 1, 1, 1, 1, 1, 1, 1, 1, 1, 1, 1, 1, 1, 1, 1, 1, 1, 1, 1, 1, 1, 1, 1, 1, 1, 1, 1, 1, 1, 1, 1, 1, 1, 1, 1, 1, 1, 1, 1, 1, 1, 1, 1, 1, 1, 1, 1, 1, 1, 1, 1, 1, 1, 1, 1, 1, 1, 1, 1, 1, 1, 1, 1, 1, 1, 1, 1, 1, 1, 1, 1, 1, 1, 1, 1, 1, 1, 1, 1, 1, 1, 1, 1, 1, 1, 1, 1, 1, 1, 1, 1, 1, 1, 1, 1, 1, 1, 1, 1, 1, 1, 1, 1, 1, 1, 1, 1, 1, 1, 1, 1, 1, 1, 1, 1, 1, 1, 1, 1]
  | _ => []
noncomputable def impl_Whole_over_l8_T (v1083 : Int) (v1906 : Int) (v1907 : Int) (v1908 : Int) (v1909 : Int) (v1910 : Int) (v1913 : List Nat) (v1914 : List Int) (s : Int × (List (List Int))) : Tree ((Int × (List (List Int))) ⊕ ((List (List Int)))) :=
  (.br (decide (s.1 < v1910)) (
   (.grd (inb v1908 ((v1913).length)) <|
   (.grd (inb v1908 ((v1913).length)) <|
   (.grd (inb s.1 ((nget s.2 (nth v1913 (Int.toNat v1908))).length)) <|
   (.grd (!decide (v1083 = 0)) <|
   (.grd (inb s.1 ((nget s.2 (nth v1913 (Int.toNat v1908))).length)) <|
   .leaf (.inl (IntKind.i64.wrap (s.1 + (1 : Int)), List.set s.2 ((nth v1913 (Int.toNat v1908)) - 1) (List.set (nget s.2 (nth v1913 (Int.toNat v1908))) (Int.toNat s.1) (Int.tmod (IntKind.i64.wrap ((nth (nget s.2 (nth v1913 (Int.toNat v1908))) (Int.toNat s.1)) * v1909)) v1083)))))))))
  ) (
   .leaf (.inr s.2)
  ))

noncomputable def impl_Whole_over_l8_g (v1083 : Int) (v1906 : Int) (v1907 : Int) (v1908 : Int) (v1909 : Int) (v1910 : Int) (v1913 : List Nat) (v1914 : List Int) (s0 : Int × (List (List Int))) : Option ((List (List Int))) := whileM (fun s => (impl_Whole_over_l8_T v1083 v1906 v1907 v1908 v1909 v1910 v1913 v1914 s).run) s0
def impl_Whole_over_l8_E (v1080 : Int) (v1081 : Int) (v1082 : List Int) (v1083 : Int) (v1084 : List Int) (v1906 : Int) (v1907 : Int) (v1908 : Int) (v1909 : Int) (v1910 : Int) (v1913 : List Nat) (v1914 : List Int) (s : Int × (List (List Int))) : Sd := ([.top, .int .i64 v1083, .top, .top, .top, .top, .top, .top, .top, .nest 0 0 1 ((v1913).length), .own 1 0 ((v1914).length), .int .i64 v1906, .top, .top, .top, .top, .int .i64 v1907, .int .i64 v1908, .top, .top, .int .i64 v1909, .top, .top, .top, .top, .top, .top, .top, .top, .top, .top, .top, .top, .top, .top, .top, .top, .top, .top, .top, .top, .top, .top, .top, .top, .top, .top, .top, .top, .top, .top, .top, .top, .top, .top, .top, .top, .top, .top, .top, .top, .top, .top, .top, .top, .int .i64 v1081, .int .i64 v1907, .top, .top, .top, .top, .top, .top, .top, .top, .top, .top, .top, .top, .top, .top, .top, .top, .top, .top, .top, .top, .top, .top, .top, .top, .top, .top, .top, .top, .top, .top, .top, .top, .top, .top, .top, .top, .top, .top, .top, .top, .top, .top, .top, .top, .top, .top, .top, .top, .top, .top, .top, .top, .top, .top, .top, .top, .top, .top, .top, .top, .top, .top, .top, .top, .top, .int .i64 v1910, .int .i64 s.1, .top, .top, .top, .top, .top, .top, .top, .top, .top, .top, .top, .top, .top, .top, .top, .top, .top, .top, .top, .top, .top, .top, .top, .top, .top, .top, .top, .top, .top, .top, .top, .top, .top, .top, .top, .top, .top, .top, .top, .top, .top, .top, .top, .top, .top, .top, .top, .top, .top, .top, .top, .top, .top, .top, .top, .top, .top, .top, .top, .top, .top, .top, .top, .top, .top, .top, .top, .top, .top, .top, .top, .top], [.nest [.sl (.i64 s.2) v1913] false 0, .row (.i64 v1914) 0])
def impl_Whole_over_l8_X (v1080 : Int) (v1081 : Int) (v1082 : List Int) (v1083 : Int) (v1084 : List Int) (v1906 : Int) (v1907 : Int) (v1908 : Int) (v1909 : Int) (v1910 : Int) (v1913 : List Nat) (v1914 : List Int) (x : (List (List Int))) : Out := (.normal, [.top, .int .i64 v1083, .top, .top, .top, .top, .top, .top, .top, .nest 0 0 1 ((v1913).length), .own 1 0 ((v1914).length), .int .i64 v1906, .top, .top, .top, .top, .int .i64 v1907, .int .i64 v1908, .top, .top, .top, .top, .top, .top, .top, .top, .top, .top, .top, .top, .top, .top, .top, .top, .top, .top, .top, .top, .top, .top, .top, .top, .top, .top, .top, .top, .top, .top, .top, .top, .top, .top, .top, .top, .top, .top, .top, .top, .top, .top, .top, .top, .top, .top, .top, .int .i64 v1081, .int .i64 v1907, .top, .top, .top, .top, .top, .top, .top, .top, .top, .top, .top, .top, .top, .top, .top, .top, .top, .top, .top, .top, .top, .top, .top, .top, .top, .top, .top, .top, .top, .top, .top, .top, .top, .top, .top, .top, .top, .top, .top, .top, .top, .top, .top, .top, .top, .top, .top, .top, .top, .top, .top, .top, .top, .top, .top, .top, .top, .top, .top, .top, .top, .top, .top, .top, .top, .top, .top, .top, .top, .top, .top, .top, .top, .top, .top, .top, .top, .top, .top, .top, .top, .top, .top, .top, .top, .top, .top, .top, .top, .top, .top, .top, .top, .top, .top, .top, .top, .top, .top, .top, .top, .top, .top, .top, .top, .top, .top, .top, .top, .top, .top, .top, .top, .top, .top, .top, .top, .top, .top, .top, .top, .top, .top, .top, .top, .top, .top, .top, .top, .top, .top, .top, .top, .top, .top, .top, .top, .top, .top], [.nest [.sl (.i64 x) v1913] false 0, .row (.i64 v1914) 0])
def impl_Whole_over_l8_kill : List Nat := [1, 0, 1, 1, 1, 1, 1, 1, 1, 0, 0, 0, 1, 1, 1, 1, 0, 0, 1, 1, 0, 1, 1, 1, 1, 1, 1, 1, 1, 1, 1, 1, 1, 1, 1, 1, 1, 1, 1, 1, 1, 1, 1, 1, 1, 1, 1, 1, 1, 1, 1, 1, 1, 1, 1, 1, 1, 1, 1, 1, 1, 1, 1, 1, 1, 0, 0, 1, 1, 1, 1, 1, 1, 1, 1, 1, 1, 1, 1, 1, 1, 1, 1, 1, 1, 1, 1, 1, 1, 1, 1, 1, 1, 1, 1, 1, 1, 1, 1, 1, 1, 1, 1, 1, 1, 1, 1, 1, 1, 1, 1, 1, 1, 1, 1, 1, 1, 1, 1, 1, 1, 1, 1, 1, 1, 1, 1, 1, 1, 1, 1, 1, 0, 0, 1, 1, 1, 1, 1, 1, 1, 1, 1, 1, 1, 1, 1, 1, 1, 1, 1, 1, 1, 1, 1, 1, 1, 1, 1, 1, 1, 1, 1, 1, 1, 1, 1, 1, 1, 1, 1, 1, 1, 1, 1, 1, 1, 1, 1, 1, 1, 1, 1, 1, 1, 1, 1, 1, 1, 1, 1, 1, 1, 1, 1, 1, 1, 1, 1, 1, 1, 1, 1, 1, 1, 1]
def impl_Whole_over_l8_nx : Exit → List Nat
  | .exit 4 => [1, 1, 1, 1, 1, 1, 1, 1, 1, 0, 0, 0, 1, 1, 1, 1, 1, 1, 1, 1, 1, 1, 1, 1, 1, 1, 1, 1, 1, 1, 1, 1, 1, 1, 1, 1, 1, 1, 1, 1, 1, 1, 1, 1, 1, 1, 1, 1, 1, 1, 1, 1, 1, 1, 1, 1, 1, 1, 1, 1, 1, 1, 1, 1, 1, 1, 1, 1, 1, 1, 1, 1, 1, 1, 1, 1, 1, 1, 1, 1, 1, 1, 1, 1, 1, 1, 1, 1, 1, 1, 1, 1, 1, 1, 1, 1, 1, 1, 1, 1, 1, 1, 1, 1, 1, 1, 1, 1, 1, 1, 1, 1, 1, 1, 1, 1, 1, 1, 1, 1, 1, 1, 1, 1, 1, 1, 1, 1, 1, 1, 1, 1, 1, 1, 1, 1, 1, 1, 1, 1, 1, 1, 1, 1, 1, 1, 1, 1, 1, 1, 1, 1, 1, 1, 1, 1, 1, 1, 1, 1, 1, 1, 1, 1, 1, 1, 1, 1, 1, 1, 1, 1, 1, 1, 1, 1, 1, 1, 1, 1, 1, 1, 1, 1, 1, 1, 1, 1, 1, 1, 1, 1, 1, 1, 1, 1, 1, 1, 1, 1, 1, 1, 1, 1, 1, 1]
  | .exit 5 => [1, 0, 1, 1, 1, 1, 1, 1, 1, 0, 0, 0, 1, 1, 1, 1, 1, 1, 1, 1, 1, 1, 1, 1, 1, 1, 1, 1, 1, 1, 1, 1, 1, 1, 1, 1, 1, 1, 1, 1, 1, 1, 1, 1, 1, 1, 1, 1, 1, 1, 1, 1, 1, 1, 1, 1, 1, 1, 1, 1, 1, 1, 1, 1, 1, 0, 0, 1, 1, 1, 1, 1, 1, 1, 1, 1, 1, 1, 1, 1, 1, 1, 1, 1, 1, 1, 1, 1, 1, 1, 1, 1, 1, 1, 1, 1, 1, 1, 1, 1, 1, 1, 1, 1, 1, 1, 1, 1, 1, 1, 1, 1, 1, 1, 1, 1, 1, 1, 1, 1, 1, 1, 1, 1, 1, 1, 1, 1, 1, 1, 1, 1, 1, 1, 1, 1, 1, 1, 1, 1, 1, 1, 1, 1, 1, 1, 1, 1, 1, 1, 1, 1, 1, 1, 1, 1, 1, 1, 1, 1, 1, 1, 1, 1, 1, 1, 1, 1, 1, 1, 1, 1, 1, 1, 1, 1, 1, 1, 1, 1, 1, 1, 1, 1, 1, 1, 1, 1, 1, 1, 1, 1, 1, 1, 1, 1, 1, 1, 1, 1, 1, 1, 1, 1, 1, 1]
  | .exit 8 => [1, 0, 1, 1, 1, 1, 1, 1, 1, 0, 0, 0, 1, 1, 1, 1, 0, 0, 1, 1, 1, 1, 1, 1, 1, 1, 1, 1, 1, 1, 1, 1, 1, 1, 1, 1, 1, 1, 1, 1, 1, 1, 1, 1, 1, 1, 1, 1, 1, 1, 1, 1, 1, 1, 1, 1, 1, 1, 1, 1, 1, 1, 1, 1, 1, 0, 0, 1, 1, 1, 1, 1, 1, 1, 1, 1, 1, 1, 1, 1, 1, 1, 1, 1, 1, 1, 1, 1, 1, 1, 1, 1, 1, 1, 1, 1, 1, 1, 1, 1, 1, 1, 1, 1, 1, 1, 1, 1, 1, 1, 1, 1, 1, 1, 1, 1, 1, 1, 1, 1, 1, 1, 1, 1, 1, 1, 1, 1, 1, 1, 1, 1, 1, 1, 1, 1, 1, 1, 1, 1, 1, 1, 1, 1, 1, 1, 1, 1, 1, 1, 1, 1, 1, 1, 1, 1, 1, 1, 1, 1, 1, 1, 1, 1, 1, 1, 1, 1, 1, 1, 1, 1, 1, 1, 1, 1, 1, 1, 1, 1, 1, 1, 1, 1, 1, 1, 1, 1, 1, 1, 1, 1, 1, 1, 1, 1, 1, 1, 1, 1, 1, 1, 1, 1, 1, 1]
  | .ret => [1, 1, 1, 1, 1, 1, 0, 0, 0, 1, 1, 1, 1, 1, 1, 1, 1, 1, 1, 1, 1, 1, 1, 1, 1, 1, 1, 1, 1, 1, 1, 1, 1, 1, 1, 1, 1, 1, 1, 1, 1, 1, 1, 1, 1, 1, 1, 1, 1, 1, 1, 1, 1, 1, 1, 1, 1, 1, 1, 1, 1, 1, 1, 1, 1, 1, 1, 1, 1, 1, 1, 1, 1, 1, 1, 1, 1, 1, 1, 1, 1, 1, 1, 1, 1, 1, 1, 1, 1, 1, 1, 1, 1, 1, 1, 1, 1, 1, 1, 1, 1, 1, 1, 1, 1, 1, 1, 1, 1, 1, 1, 1, 1, 1, 1, 1, 1, 1, 1, 1, 1, 1, 1, 1, 1, 1, 1, 1, 1, 1, 1, 1, 1, 1, 1, 1, 1, 1, 1, 1, 1, 1, 1, 1, 1, 1, 1, 1, 1, 1, 1, 1, 1, 1, 1, 1, 1, 1, 1, 1, 1, 1, 1, 1, 1, 1, 1, 1, 1, 1, 1, 1, 1, 1, 1, 1, 1, 1, 1, 1, 1, 1, 1, 1, 1, 1, 1, 1, 1, 1, 1, 1, 1, 1, 1, 1, 1, 1, 1, 1, 1, 1, 1, 1, 1, 1]
  | _ => []
noncomputable def impl_Whole_over_l12_T (v1083 : Int) (v2046 : Int) (v2047 : Int) (v2048 : Int) (v2049 : Nat) (v2050 : Int) (v2051 : Int) (v2052 : Int) (v2053 : Int) (v2056 : List Nat) (v2057 : List Int) (s : Int × (List (List Int))) : Tree ((Int × (List (List Int))) ⊕ ((List (List Int)))) :=
  (.br (decide (s.1 < v2053)) (
   (.grd (inb s.1 ((nget s.2 v2049).length)) <|
   (.grd (inb v2048 ((v2056).length)) <|
   (.grd (inb s.1 ((nget s.2 (nth v2056 (Int.toNat v2048))).length)) <|
   (.call (impl_rest_g (IntKind.i64.wrap ((nth (nget s.2 v2049) (Int.toNat s.1)) - (IntKind.i64.wrap (v2050 * (nth (nget s.2 (nth v2056 (Int.toNat v2048))) (Int.toNat s.1)))))) v1083) fun v2058 =>
   (.grd (inb s.1 ((nget s.2 v2049).length)) <|
   .leaf (.inl (IntKind.i64.wrap (s.1 + (1 : Int)), List.set s.2 (v2049 - 1) (List.set (nget s.2 v2049) (Int.toNat s.1) v2058))))))))
  ) (
   .leaf (.inr s.2)
  ))

noncomputable def impl_Whole_over_l12_g (v1083 : Int) (v2046 : Int) (v2047 : Int) (v2048 : Int) (v2049 : Nat) (v2050 : Int) (v2051 : Int) (v2052 : Int) (v2053 : Int) (v2056 : List Nat) (v2057 : List Int) (s0 : Int × (List (List Int))) : Option ((List (List Int))) := whileM (fun s => (impl_Whole_over_l12_T v1083 v2046 v2047 v2048 v2049 v2050 v2051 v2052 v2053 v2056 v2057 s).run) s0
def impl_Whole_over_l12_E (v1080 : Int) (v1081 : Int) (v1082 : List Int) (v1083 : Int) (v1084 : List Int) (v2046 : Int) (v2047 : Int) (v2048 : Int) (v2049 : Nat) (v2050 : Int) (v2051 : Int) (v2052 : Int) (v2053 : Int) (v2056 : List Nat) (v2057 : List Int) (s : Int × (List (List Int))) : Sd := ([.top, .int .i64 v1083, .top, .top, .top, .top, .top, .top, .top, .nest 0 0 1 ((v2056).length), .own 1 0 ((v2057).length), .int .i64 v2046, .top, .top, .top, .top, .int .i64 v2047, .int .i64 v2048, .top, .top, .top, .top, .top, .inn 0 0 v2049 ((nget s.2 v2049).length), .int .i64 v2050, .top, .top, .top, .top, .top, .top, .top, .top, .top, .top, .top, .top, .top, .top, .top, .top, .top, .top, .top, .top, .top, .top, .top, .top, .top, .top, .top, .top, .top, .top, .top, .top, .top, .top, .top, .top, .top, .top, .top, .top, .int .i64 v1081, .int .i64 v2047, .top, .top, .top, .top, .top, .top, .top, .top, .top, .top, .top, .top, .top, .top, .top, .top, .top, .top, .top, .top, .top, .top, .top, .top, .top, .top, .top, .top, .top, .top, .top, .top, .top, .top, .top, .top, .top, .top, .top, .top, .top, .top, .top, .top, .top, .top, .top, .top, .top, .top, .top, .top, .top, .top, .top, .top, .top, .top, .top, .top, .top, .top, .top, .top, .top, .top, .top, .top, .top, .top, .top, .top, .top, .top, .top, .top, .top, .top, .top, .top, .top, .top, .top, .top, .top, .top, .top, .nest 0 0 1 ((v2056).length), .int .i64 v2051, .int .i64 v2052, .top, .top, .top, .top, .top, .top, .top, .top, .top, .top, .top, .top, .top, .top, .top, .top, .int .i64 v2053, .int .i64 s.1, .top, .top, .top, .top, .top, .top, .top, .top, .top, .top, .top, .top, .top, .top, .top, .top, .top, .top, .top, .top, .top, .top, .top, .top, .top, .top, .top, .top, .top, .top, .top], [.nest [.sl (.i64 s.2) v2056] false 0, .row (.i64 v2057) 0])
def impl_Whole_over_l12_X (v1080 : Int) (v1081 : Int) (v1082 : List Int) (v1083 : Int) (v1084 : List Int) (v2046 : Int) (v2047 : Int) (v2048 : Int) (v2049 : Nat) (v2050 : Int) (v2051 : Int) (v2052 : Int) (v2053 : Int) (v2056 : List Nat) (v2057 : List Int) (x : (List (List Int))) : Out := (.normal, [.top, .int .i64 v1083, .top, .top, .top, .top, .top, .top, .top, .nest 0 0 1 ((v2056).length), .own 1 0 ((v2057).length), .int .i64 v2046, .top, .top, .top, .top, .int .i64 v2047, .int .i64 v2048, .top, .top, .top, .top, .top, .top, .top, .top, .top, .top, .top, .top, .top, .top, .top, .top, .top, .top, .top, .top, .top, .top, .top, .top, .top, .top, .top, .top, .top, .top, .top, .top, .top, .top, .top, .top, .top, .top, .top, .top, .top, .top, .top, .top, .top, .top, .top, .int .i64 v1081, .int .i64 v2047, .top, .top, .top, .top, .top, .top, .top, .top, .top, .top, .top, .top, .top, .top, .top, .top, .top, .top, .top, .top, .top, .top, .top, .top, .top, .top, .top, .top, .top, .top, .top, .top, .top, .top, .top, .top, .top, .top, .top, .top, .top, .top, .top, .top, .top, .top, .top, .top, .top, .top, .top, .top, .top, .top, .top, .top, .top, .top, .top, .top, .top, .top, .top, .top, .top, .top, .top, .top, .top, .top, .top, .top, .top, .top, .top, .top, .top, .top, .top, .top, .top, .top, .top, .top, .top, .top, .top, .nest 0 0 1 ((v2056).length), .int .i64 v2051, .int .i64 v2052, .top, .top, .top, .top, .top, .top, .top, .top, .top, .top, .top, .top, .top, .top, .top, .top, .top, .top, .top, .top, .top, .top, .top, .top, .top, .top, .top, .top, .top, .top, .top, .top, .top, .top, .top, .top, .top, .top, .top, .top, .top, .top, .top, .top, .top, .top, .top, .top, .top], [.nest [.sl (.i64 x) v2056] false 0, .row (.i64 v2057) 0])
def impl_Whole_over_l12_kill : List Nat := [1, 0, 1, 1, 1, 1, 1, 1, 1, 0, 0, 0, 1, 1, 1, 1, 0, 0, 1, 1, 1, 1, 1, 0, 0, 1, 1, 1, 1, 1, 1, 1, 1, 1, 1, 1, 1, 1, 1, 1, 1, 1, 1, 1, 1, 1, 1, 1, 1, 1, 1, 1, 1, 1, 1, 1, 1, 1, 1, 1, 1, 1, 1, 1, 1, 0, 0, 1, 1, 1, 1, 1, 1, 1, 1, 1, 1, 1, 1, 1, 1, 1, 1, 1, 1, 1, 1, 1, 1, 1, 1, 1, 1, 1, 1, 1, 1, 1, 1, 1, 1, 1, 1, 1, 1, 1, 1, 1, 1, 1, 1, 1, 1, 1, 1, 1, 1, 1, 1, 1, 1, 1, 1, 1, 1, 1, 1, 1, 1, 1, 1, 1, 1, 1, 1, 1, 1, 1, 1, 1, 1, 1, 1, 1, 1, 1, 1, 1, 1, 1, 1, 1, 1, 1, 0, 0, 0, 1, 1, 1, 1, 1, 1, 1, 1, 1, 1, 1, 1, 1, 1, 1, 1, 0, 0, 1, 1, 1, 1, 1, 1, 1, 1, 1, 1, 1, 1, 1, 1, 1, 1, 1, 1, 1, 1, 1, 1, 1, 1, 1, 1, 1, 1, 1, 1, 1]
def impl_Whole_over_l12_nx : Exit → List Nat
  | .exit 4 => [1, 1, 1, 1, 1, 1, 1, 1, 1, 0, 0, 0, 1, 1, 1, 1, 1, 1, 1, 1, 1, 1, 1, 1, 1, 1, 1, 1, 1, 1, 1, 1, 1, 1, 1, 1, 1, 1, 1, 1, 1, 1, 1, 1, 1, 1, 1, 1, 1, 1, 1, 1, 1, 1, 1, 1, 1, 1, 1, 1, 1, 1, 1, 1, 1, 1, 1, 1, 1, 1, 1, 1, 1, 1, 1, 1, 1, 1, 1, 1, 1, 1, 1, 1, 1, 1, 1, 1, 1, 1, 1, 1, 1, 1, 1, 1, 1, 1, 1, 1, 1, 1, 1, 1, 1, 1, 1, 1, 1, 1, 1, 1, 1, 1, 1, 1, 1, 1, 1, 1, 1, 1, 1, 1, 1, 1, 1, 1, 1, 1, 1, 1, 1, 1, 1, 1, 1, 1, 1, 1, 1, 1, 1, 1, 1, 1, 1, 1, 1, 1, 1, 1, 1, 1, 1, 1, 1, 1, 1, 1, 1, 1, 1, 1, 1, 1, 1, 1, 1, 1, 1, 1, 1, 1, 1, 1, 1, 1, 1, 1, 1, 1, 1, 1, 1, 1, 1, 1, 1, 1, 1, 1, 1, 1, 1, 1, 1, 1, 1, 1, 1, 1, 1, 1, 1, 1]
  | .exit 5 => [1, 0, 1, 1, 1, 1, 1, 1, 1, 0, 0, 0, 1, 1, 1, 1, 1, 1, 1, 1, 1, 1, 1, 1, 1, 1, 1, 1, 1, 1, 1, 1, 1, 1, 1, 1, 1, 1, 1, 1, 1, 1, 1, 1, 1, 1, 1, 1, 1, 1, 1, 1, 1, 1, 1, 1, 1, 1, 1, 1, 1, 1, 1, 1, 1, 0, 0, 1, 1, 1, 1, 1, 1, 1, 1, 1, 1, 1, 1, 1, 1, 1, 1, 1, 1, 1, 1, 1, 1, 1, 1, 1, 1, 1, 1, 1, 1, 1, 1, 1, 1, 1, 1, 1, 1, 1, 1, 1, 1, 1, 1, 1, 1, 1, 1, 1, 1, 1, 1, 1, 1, 1, 1, 1, 1, 1, 1, 1, 1, 1, 1, 1, 1, 1, 1, 1, 1, 1, 1, 1, 1, 1, 1, 1, 1, 1, 1, 1, 1, 1, 1, 1, 1, 1, 1, 1, 1, 1, 1, 1, 1, 1, 1, 1, 1, 1, 1, 1, 1, 1, 1, 1, 1, 1, 1, 1, 1, 1, 1, 1, 1, 1, 1, 1, 1, 1, 1, 1, 1, 1, 1, 1, 1, 1, 1, 1, 1, 1, 1, 1, 1, 1, 1, 1, 1, 1]
  | .exit 10 => [1, 0, 1, 1, 1, 1, 1, 1, 1, 0, 0, 0, 1, 1, 1, 1, 0, 1, 1, 1, 1, 1, 1, 1, 1, 1, 1, 1, 1, 1, 1, 1, 1, 1, 1, 1, 1, 1, 1, 1, 1, 1, 1, 1, 1, 1, 1, 1, 1, 1, 1, 1, 1, 1, 1, 1, 1, 1, 1, 1, 1, 1, 1, 1, 1, 0, 0, 1, 1, 1, 1, 1, 1, 1, 1, 1, 1, 1, 1, 1, 1, 1, 1, 1, 1, 1, 1, 1, 1, 1, 1, 1, 1, 1, 1, 1, 1, 1, 1, 1, 1, 1, 1, 1, 1, 1, 1, 1, 1, 1, 1, 1, 1, 1, 1, 1, 1, 1, 1, 1, 1, 1, 1, 1, 1, 1, 1, 1, 1, 1, 1, 1, 1, 1, 1, 1, 1, 1, 1, 1, 1, 1, 1, 1, 1, 1, 1, 1, 1, 1, 1, 1, 1, 1, 1, 1, 1, 1, 1, 1, 1, 1, 1, 1, 1, 1, 1, 1, 1, 1, 1, 1, 1, 1, 1, 1, 1, 1, 1, 1, 1, 1, 1, 1, 1, 1, 1, 1, 1, 1, 1, 1, 1, 1, 1, 1, 1, 1, 1, 1, 1, 1, 1, 1, 1, 1]
  | .exit 11 => [1, 0, 1, 1, 1, 1, 1, 1, 1, 0, 0, 0, 1, 1, 1, 1, 0, 0, 1, 1, 1, 1, 1, 1, 1, 1, 1, 1, 1, 1, 1, 1, 1, 1, 1, 1, 1, 1, 1, 1, 1, 1, 1, 1, 1, 1, 1, 1, 1, 1, 1, 1, 1, 1, 1, 1, 1, 1, 1, 1, 1, 1, 1, 1, 1, 0, 0, 1, 1, 1, 1, 1, 1, 1, 1, 1, 1, 1, 1, 1, 1, 1, 1, 1, 1, 1, 1, 1, 1, 1, 1, 1, 1, 1, 1, 1, 1, 1, 1, 1, 1, 1, 1, 1, 1, 1, 1, 1, 1, 1, 1, 1, 1, 1, 1, 1, 1, 1, 1, 1, 1, 1, 1, 1, 1, 1, 1, 1, 1, 1, 1, 1, 1, 1, 1, 1, 1, 1, 1, 1, 1, 1, 1, 1, 1, 1, 1, 1, 1, 1, 1, 1, 1, 1, 0, 0, 0, 1, 1, 1, 1, 1, 1, 1, 1, 1, 1, 1, 1, 1, 1, 1, 1, 1, 1, 1, 1, 1, 1, 1, 1, 1, 1, 1, 1, 1, 1, 1, 1, 1, 1, 1, 1, 1, 1, 1, 1, 1, 1, 1, 1, 1, 1, 1, 1, 1]
  | .exit 12 => [1, 0, 1, 1, 1, 1, 1, 1, 1, 0, 0, 0, 1, 1, 1, 1, 0, 0, 1, 1, 1, 1, 1, 1, 1, 1, 1, 1, 1, 1, 1, 1, 1, 1, 1, 1, 1, 1, 1, 1, 1, 1, 1, 1, 1, 1, 1, 1, 1, 1, 1, 1, 1, 1, 1, 1, 1, 1, 1, 1, 1, 1, 1, 1, 1, 0, 0, 1, 1, 1, 1, 1, 1, 1, 1, 1, 1, 1, 1, 1, 1, 1, 1, 1, 1, 1, 1, 1, 1, 1, 1, 1, 1, 1, 1, 1, 1, 1, 1, 1, 1, 1, 1, 1, 1, 1, 1, 1, 1, 1, 1, 1, 1, 1, 1, 1, 1, 1, 1, 1, 1, 1, 1, 1, 1, 1, 1, 1, 1, 1, 1, 1, 1, 1, 1, 1, 1, 1, 1, 1, 1, 1, 1, 1, 1, 1, 1, 1, 1, 1, 1, 1, 1, 1, 0, 0, 0, 1, 1, 1, 1, 1, 1, 1, 1, 1, 1, 1, 1, 1, 1, 1, 1, 1, 1, 1, 1, 1, 1, 1, 1, 1, 1, 1, 1, 1, 1, 1, 1, 1, 1, 1, 1, 1, 1, 1, 1, 1, 1, 1, 1, 1, 1, 1, 1, 1]
  | .ret => [1, 1, 1, 1, 1, 1, 0, 0, 0, 1, 1, 1, 1, 1, 1, 1, 1, 1, 1, 1, 1, 1, 1, 1, 1, 1, 1, 1, 1, 1, 1, 1, 1, 1, 1, 1, 1, 1, 1, 1, 1, 1, 1, 1, 1, 1, 1, 1, 1, 1, 1, 1, 1, 1, 1, 1, 1, 1, 1, 1, 1, 1, 1, 1, 1, 1, 1, 1, 1, 1, 1, 1, 1, 1, 1, 1, 1, 1, 1, 1, 1, 1, 1, 1, 1, 1, 1, 1, 1, 1, 1, 1, 1, 1, 1, 1, 1, 1, 1, 1, 1, 1, 1, 1, 1, 1, 1, 1, 1, 1, 1, 1, 1, 1, 1, 1, 1, 1, 1, 1, 1, 1, 1, 1, 1, 1, 1, 1, 1, 1, 1, 1, 1, 1, 1, 1, 1, 1, 1, 1, 1, 1, 1, 1, 1, 1, 1, 1, 1, 1, 1, 1, 1, 1, 1, 1, 1, 1, 1, 1, 1, 1, 1, 1, 1, 1, 1, 1, 1, 1, 1, 1, 1, 1, 1, 1, 1, 1, 1, 1, 1, 1, 1, 1, 1, 1, 1, 1, 1, 1, 1, 1, 1, 1, 1, 1, 1, 1, 1, 1, 1, 1, 1, 1, 1, 1]
  | _ => []
noncomputable def impl_Whole_over_l10_T (v1080 : Int) (v1081 : Int) (v1082 : List Int) (v1083 : Int) (v1084 : List Int) (v2012 : Int) (v2013 : Int) (v2014 : Int) (v2015 : Int) (v2018 : List Nat) (v2019 : List Int) (s : Int × (List (List Int))) : Tree ((Int × (List (List Int))) ⊕ ((List (List Int)))) :=
  (.br (decide (s.1 < v2015)) (
   (.grd (inb s.1 ((v2018).length)) <|
   (.grd (inb v2013 ((nget s.2 (nth v2018 (Int.toNat s.1))).length)) <|
   (.br (!decide (s.1 = v2014)) (
    (.br (!decide (nth (nget s.2 (nth v2018 (Int.toNat s.1))) (Int.toNat v2013) = (0 : Int))) (
     (.need (some (impl_Whole_over_l12_E v1080 v1081 v1082 v1083 v1084 v2012 v2013 v2014 (nth v2018 (Int.toNat s.1)) (nth (nget s.2 (nth v2018 (Int.toNat s.1))) (Int.toNat v2013)) v2015 s.1 (((nget s.2 (nth v2018 (Int.toNat s.1))).length : Nat) : Int) v2018 v2019 ((0 : Int), s.2)) = some (impl_Whole_over_l12_E v1080 v1081 v1082 v1083 v1084 v2012 v2013 v2014 (nth v2018 (Int.toNat s.1)) (nth (nget s.2 (nth v2018 (Int.toNat s.1))) (Int.toNat v2013)) v2015 s.1 (((nget s.2 (nth v2018 (Int.toNat s.1))).length : Nat) : Int) v2018 v2019 ((0 : Int), s.2))) <|
     (.call (impl_Whole_over_l12_g v1083 v2012 v2013 v2014 (nth v2018 (Int.toNat s.1)) (nth (nget s.2 (nth v2018 (Int.toNat s.1))) (Int.toNat v2013)) v2015 s.1 (((nget s.2 (nth v2018 (Int.toNat s.1))).length : Nat) : Int) v2018 v2019 ((0 : Int), s.2)) fun v2059 =>
     .leaf (.inl (IntKind.i64.wrap (s.1 + (1 : Int)), v2059))))
    ) (
     .leaf (.inl (IntKind.i64.wrap (s.1 + (1 : Int)), s.2))
    ))
   ) (
    .leaf (.inl (IntKind.i64.wrap (s.1 + (1 : Int)), s.2))
   ))))
  ) (
   .leaf (.inr s.2)
  ))

noncomputable def impl_Whole_over_l10_g (v1080 : Int) (v1081 : Int) (v1082 : List Int) (v1083 : Int) (v1084 : List Int) (v2012 : Int) (v2013 : Int) (v2014 : Int) (v2015 : Int) (v2018 : List Nat) (v2019 : List Int) (s0 : Int × (List (List Int))) : Option ((List (List Int))) := whileM (fun s => (impl_Whole_over_l10_T v1080 v1081 v1082 v1083 v1084 v2012 v2013 v2014 v2015 v2018 v2019 s).run) s0
def impl_Whole_over_l10_E (v1080 : Int) (v1081 : Int) (v1082 : List Int) (v1083 : Int) (v1084 : List Int) (v2012 : Int) (v2013 : Int) (v2014 : Int) (v2015 : Int) (v2018 : List Nat) (v2019 : List Int) (s : Int × (List (List Int))) : Sd := ([.top, .int .i64 v1083, .top, .top, .top, .top, .top, .top, .top, .nest 0 0 1 ((v2018).length), .own 1 0 ((v2019).length), .int .i64 v2012, .top, .top, .top, .top, .int .i64 v2013, .int .i64 v2014, .top, .top, .top, .top, .top, .top, .top, .top, .top, .top, .top, .top, .top, .top, .top, .top, .top, .top, .top, .top, .top, .top, .top, .top, .top, .top, .top, .top, .top, .top, .top, .top, .top, .top, .top, .top, .top, .top, .top, .top, .top, .top, .top, .top, .top, .top, .top, .int .i64 v1081, .int .i64 v2013, .top, .top, .top, .top, .top, .top, .top, .top, .top, .top, .top, .top, .top, .top, .top, .top, .top, .top, .top, .top, .top, .top, .top, .top, .top, .top, .top, .top, .top, .top, .top, .top, .top, .top, .top, .top, .top, .top, .top, .top, .top, .top, .top, .top, .top, .top, .top, .top, .top, .top, .top, .top, .top, .top, .top, .top, .top, .top, .top, .top, .top, .top, .top, .top, .top, .top, .top, .top, .top, .top, .top, .top, .top, .top, .top, .top, .top, .top, .top, .top, .top, .top, .top, .top, .top, .top, .top, .nest 0 0 1 ((v2018).length), .int .i64 v2015, .int .i64 s.1, .top, .top, .top, .top, .top, .top, .top, .top, .top, .top, .top, .top, .top, .top, .top, .top, .top, .top, .top, .top, .top, .top, .top, .top, .top, .top, .top, .top, .top, .top, .top, .top, .top, .top, .top, .top, .top, .top, .top, .top, .top, .top, .top, .top, .top, .top, .top, .top, .top], [.nest [.sl (.i64 s.2) v2018] false 0, .row (.i64 v2019) 0])
def impl_Whole_over_l10_X (v1080 : Int) (v1081 : Int) (v1082 : List Int) (v1083 : Int) (v1084 : List Int) (v2012 : Int) (v2013 : Int) (v2014 : Int) (v2015 : Int) (v2018 : List Nat) (v2019 : List Int) (x : (List (List Int))) : Out := (.normal, [.top, .int .i64 v1083, .top, .top, .top, .top, .top, .top, .top, .nest 0 0 1 ((v2018).length), .own 1 0 ((v2019).length), .int .i64 v2012, .top, .top, .top, .top, .int .i64 v2013, .top, .top, .top, .top, .top, .top, .top, .top, .top, .top, .top, .top, .top, .top, .top, .top, .top, .top, .top, .top, .top, .top, .top, .top, .top, .top, .top, .top, .top, .top, .top, .top, .top, .top, .top, .top, .top, .top, .top, .top, .top, .top, .top, .top, .top, .top, .top, .top, .int .i64 v1081, .int .i64 v2013, .top, .top, .top, .top, .top, .top, .top, .top, .top, .top, .top, .top, .top, .top, .top, .top, .top, .top, .top, .top, .top, .top, .top, .top, .top, .top, .top, .top, .top, .top, .top, .top, .top, .top, .top, .top, .top, .top, .top, .top, .top, .top, .top, .top, .top, .top, .top, .top, .top, .top, .top, .top, .top, .top, .top, .top, .top, .top, .top, .top, .top, .top, .top, .top, .top, .top, .top, .top, .top, .top, .top, .top, .top, .top, .top, .top, .top, .top, .top, .top, .top, .top, .top, .top, .top, .top, .top, .top, .top, .top, .top, .top, .top, .top, .top, .top, .top, .top, .top, .top, .top, .top, .top, .top, .top, .top, .top, .top, .top, .top, .top, .top, .top, .top, .top, .top, .top, .top, .top, .top, .top, .top, .top, .top, .top, .top, .top, .top, .top, .top, .top, .top, .top, .top, .top, .top, .top, .top, .top], [.nest [.sl (.i64 x) v2018] false 0, .row (.i64 v2019) 0])
def impl_Whole_over_l10_kill : List Nat := [1, 0, 1, 1, 1, 1, 1, 1, 1, 0, 0, 0, 1, 1, 1, 1, 0, 0, 1, 1, 1, 1, 1, 1, 1, 1, 1, 1, 1, 1, 1, 1, 1, 1, 1, 1, 1, 1, 1, 1, 1, 1, 1, 1, 1, 1, 1, 1, 1, 1, 1, 1, 1, 1, 1, 1, 1, 1, 1, 1, 1, 1, 1, 1, 1, 0, 0, 1, 1, 1, 1, 1, 1, 1, 1, 1, 1, 1, 1, 1, 1, 1, 1, 1, 1, 1, 1, 1, 1, 1, 1, 1, 1, 1, 1, 1, 1, 1, 1, 1, 1, 1, 1, 1, 1, 1, 1, 1, 1, 1, 1, 1, 1, 1, 1, 1, 1, 1, 1, 1, 1, 1, 1, 1, 1, 1, 1, 1, 1, 1, 1, 1, 1, 1, 1, 1, 1, 1, 1, 1, 1, 1, 1, 1, 1, 1, 1, 1, 1, 1, 1, 1, 1, 1, 0, 0, 0, 1, 1, 1, 1, 1, 1, 1, 1, 1, 1, 1, 1, 1, 1, 1, 1, 1, 1, 1, 1, 1, 1, 1, 1, 1, 1, 1, 1, 1, 1, 1, 1, 1, 1, 1, 1, 1, 1, 1, 1, 1, 1, 1, 1, 1, 1, 1, 1, 1]
def impl_Whole_over_l10_nx : Exit → List Nat
  | .exit 4 => [1, 1, 1, 1, 1, 1, 1, 1, 1, 0, 0, 0, 1, 1, 1, 1, 1, 1, 1, 1, 1, 1, 1, 1, 1, 1, 1, 1, 1, 1, 1, 1, 1, 1, 1, 1, 1, 1, 1, 1, 1, 1, 1, 1, 1, 1, 1, 1, 1, 1, 1, 1, 1, 1, 1, 1, 1, 1, 1, 1, 1, 1, 1, 1, 1, 1, 1, 1, 1, 1, 1, 1, 1, 1, 1, 1, 1, 1, 1, 1, 1, 1, 1, 1, 1, 1, 1, 1, 1, 1, 1, 1, 1, 1, 1, 1, 1, 1, 1, 1, 1, 1, 1, 1, 1, 1, 1, 1, 1, 1, 1, 1, 1, 1, 1, 1, 1, 1, 1, 1, 1, 1, 1, 1, 1, 1, 1, 1, 1, 1, 1, 1, 1, 1, 1, 1, 1, 1, 1, 1, 1, 1, 1, 1, 1, 1, 1, 1, 1, 1, 1, 1, 1, 1, 1, 1, 1, 1, 1, 1, 1, 1, 1, 1, 1, 1, 1, 1, 1, 1, 1, 1, 1, 1, 1, 1, 1, 1, 1, 1, 1, 1, 1, 1, 1, 1, 1, 1, 1, 1, 1, 1, 1, 1, 1, 1, 1, 1, 1, 1, 1, 1, 1, 1, 1, 1]
  | .exit 5 => [1, 0, 1, 1, 1, 1, 1, 1, 1, 0, 0, 0, 1, 1, 1, 1, 1, 1, 1, 1, 1, 1, 1, 1, 1, 1, 1, 1, 1, 1, 1, 1, 1, 1, 1, 1, 1, 1, 1, 1, 1, 1, 1, 1, 1, 1, 1, 1, 1, 1, 1, 1, 1, 1, 1, 1, 1, 1, 1, 1, 1, 1, 1, 1, 1, 0, 0, 1, 1, 1, 1, 1, 1, 1, 1, 1, 1, 1, 1, 1, 1, 1, 1, 1, 1, 1, 1, 1, 1, 1, 1, 1, 1, 1, 1, 1, 1, 1, 1, 1, 1, 1, 1, 1, 1, 1, 1, 1, 1, 1, 1, 1, 1, 1, 1, 1, 1, 1, 1, 1, 1, 1, 1, 1, 1, 1, 1, 1, 1, 1, 1, 1, 1, 1, 1, 1, 1, 1, 1, 1, 1, 1, 1, 1, 1, 1, 1, 1, 1, 1, 1, 1, 1, 1, 1, 1, 1, 1, 1, 1, 1, 1, 1, 1, 1, 1, 1, 1, 1, 1, 1, 1, 1, 1, 1, 1, 1, 1, 1, 1, 1, 1, 1, 1, 1, 1, 1, 1, 1, 1, 1, 1, 1, 1, 1, 1, 1, 1, 1, 1, 1, 1, 1, 1, 1, 1]
  | .exit 10 => [1, 0, 1, 1, 1, 1, 1, 1, 1, 0, 0, 0, 1, 1, 1, 1, 0, 1, 1, 1, 1, 1, 1, 1, 1, 1, 1, 1, 1, 1, 1, 1, 1, 1, 1, 1, 1, 1, 1, 1, 1, 1, 1, 1, 1, 1, 1, 1, 1, 1, 1, 1, 1, 1, 1, 1, 1, 1, 1, 1, 1, 1, 1, 1, 1, 0, 0, 1, 1, 1, 1, 1, 1, 1, 1, 1, 1, 1, 1, 1, 1, 1, 1, 1, 1, 1, 1, 1, 1, 1, 1, 1, 1, 1, 1, 1, 1, 1, 1, 1, 1, 1, 1, 1, 1, 1, 1, 1, 1, 1, 1, 1, 1, 1, 1, 1, 1, 1, 1, 1, 1, 1, 1, 1, 1, 1, 1, 1, 1, 1, 1, 1, 1, 1, 1, 1, 1, 1, 1, 1, 1, 1, 1, 1, 1, 1, 1, 1, 1, 1, 1, 1, 1, 1, 1, 1, 1, 1, 1, 1, 1, 1, 1, 1, 1, 1, 1, 1, 1, 1, 1, 1, 1, 1, 1, 1, 1, 1, 1, 1, 1, 1, 1, 1, 1, 1, 1, 1, 1, 1, 1, 1, 1, 1, 1, 1, 1, 1, 1, 1, 1, 1, 1, 1, 1, 1]
  | .ret => [1, 1, 1, 1, 1, 1, 0, 0, 0, 1, 1, 1, 1, 1, 1, 1, 1, 1, 1, 1, 1, 1, 1, 1, 1, 1, 1, 1, 1, 1, 1, 1, 1, 1, 1, 1, 1, 1, 1, 1, 1, 1, 1, 1, 1, 1, 1, 1, 1, 1, 1, 1, 1, 1, 1, 1, 1, 1, 1, 1, 1, 1, 1, 1, 1, 1, 1, 1, 1, 1, 1, 1, 1, 1, 1, 1, 1, 1, 1, 1, 1, 1, 1, 1, 1, 1, 1, 1, 1, 1, 1, 1, 1, 1, 1, 1, 1, 1, 1, 1, 1, 1, 1, 1, 1, 1, 1, 1, 1, 1, 1, 1, 1, 1, 1, 1, 1, 1, 1, 1, 1, 1, 1, 1, 1, 1, 1, 1, 1, 1, 1, 1, 1, 1, 1, 1, 1, 1, 1, 1, 1, 1, 1, 1, 1, 1, 1, 1, 1, 1, 1, 1, 1, 1, 1, 1, 1, 1, 1, 1, 1, 1, 1, 1, 1, 1, 1, 1, 1, 1, 1, 1, 1, 1, 1, 1, 1, 1, 1, 1, 1, 1, 1, 1, 1, 1, 1, 1, 1, 1, 1, 1, 1, 1, 1, 1, 1, 1, 1, 1, 1, 1, 1, 1, 1, 1]
  | _ => []
noncomputable def impl_Whole_over_l4_T (v1080 : Int) (v1081 : Int) (v1082 : List Int) (v1083 : Int) (v1084 : List Int) (s : Int × Int × (List (List Int)) × (List Nat) × (List Int)) : Tree ((Int × Int × (List (List Int)) × (List Nat) × (List Int)) ⊕ (Int × (List (List Int)) × (List Nat) × (List Int))) :=
  (.br (decide (s.2.1 < v1081)) (
   (.need (some (impl_Whole_over_l6_E v1080 v1081 v1082 v1083 v1084 s.1 s.2.1 (((s.2.2.2.2).length : Nat) : Int) s.2.2.1 s.2.2.2.1 s.2.2.2.2 (((s.2.2.2.2).length : Nat) : Int)) = some (impl_Whole_over_l6_E v1080 v1081 v1082 v1083 v1084 s.1 s.2.1 (((s.2.2.2.2).length : Nat) : Int) s.2.2.1 s.2.2.2.1 s.2.2.2.2 (((s.2.2.2.2).length : Nat) : Int))) <|
   (.call (impl_Whole_over_l6_g s.1 s.2.1 (((s.2.2.2.2).length : Nat) : Int) s.2.2.1 s.2.2.2.1 s.2.2.2.2 (((s.2.2.2.2).length : Nat) : Int)) fun v1885 =>
   (.br (decide (v1885 = (((s.2.2.2.1).length : Nat) : Int))) (
    .leaf (.inl ((0 : Int), IntKind.i64.wrap (s.2.1 + (1 : Int)), s.2.2.1, s.2.2.2.1, s.2.2.2.2))
   ) (
    (.br (!decide (v1885 = (((s.2.2.2.2).length : Nat) : Int))) (
     (.grd (inb (((s.2.2.2.2).length : Nat) : Int) ((s.2.2.2.1).length)) <|
     (.grd (inb v1885 ((s.2.2.2.1).length)) <|
     (.grd (inb v1885 ((s.2.2.2.1).length)) <|
     (.grd (inb (((s.2.2.2.2).length : Nat) : Int) ((s.2.2.2.1).length)) <|
     (.call (impl_rest_g (IntKind.i64.wrap (0 - s.1)) v1083) fun v1886 =>
     (.grd (inb (((s.2.2.2.2).length : Nat) : Int) ((s.2.2.2.1).length)) <|
     (.grd (inb s.2.1 ((nget s.2.2.1 (nth (List.set (List.set s.2.2.2.1 (Int.toNat v1885) (nth s.2.2.2.1 (Int.toNat (((s.2.2.2.2).length : Nat) : Int)))) (Int.toNat (((s.2.2.2.2).length : Nat) : Int)) (nth s.2.2.2.1 (Int.toNat v1885))) (Int.toNat (((s.2.2.2.2).length : Nat) : Int)))).length)) <|
     (.grd (!decide (v1083 = 0)) <|
     (.call (impl_backOver_g (nth (nget s.2.2.1 (nth (List.set (List.set s.2.2.2.1 (Int.toNat v1885) (nth s.2.2.2.1 (Int.toNat (((s.2.2.2.2).length : Nat) : Int)))) (Int.toNat (((s.2.2.2.2).length : Nat) : Int)) (nth s.2.2.2.1 (Int.toNat v1885))) (Int.toNat (((s.2.2.2.2).length : Nat) : Int)))) (Int.toNat s.2.1)) v1083) fun v1887 =>
     (.grd (inb (((s.2.2.2.2).length : Nat) : Int) ((s.2.2.2.1).length)) <|
     (.need (some (impl_Whole_over_l8_E v1080 v1081 v1082 v1083 v1084 (Int.tmod (IntKind.i64.wrap (v1886 * (nth (nget s.2.2.1 (nth (List.set (List.set s.2.2.2.1 (Int.toNat v1885) (nth s.2.2.2.1 (Int.toNat (((s.2.2.2.2).length : Nat) : Int)))) (Int.toNat (((s.2.2.2.2).length : Nat) : Int)) (nth s.2.2.2.1 (Int.toNat v1885))) (Int.toNat (((s.2.2.2.2).length : Nat) : Int)))) (Int.toNat s.2.1)))) v1083) s.2.1 (((s.2.2.2.2).length : Nat) : Int) v1887 (((nget s.2.2.1 (nth (List.set (List.set s.2.2.2.1 (Int.toNat v1885) (nth s.2.2.2.1 (Int.toNat (((s.2.2.2.2).length : Nat) : Int)))) (Int.toNat (((s.2.2.2.2).length : Nat) : Int)) (nth s.2.2.2.1 (Int.toNat v1885))) (Int.toNat (((s.2.2.2.2).length : Nat) : Int)))).length : Nat) : Int) (List.set (List.set s.2.2.2.1 (Int.toNat v1885) (nth s.2.2.2.1 (Int.toNat (((s.2.2.2.2).length : Nat) : Int)))) (Int.toNat (((s.2.2.2.2).length : Nat) : Int)) (nth s.2.2.2.1 (Int.toNat v1885))) s.2.2.2.2 ((0 : Int), s.2.2.1)) = some (impl_Whole_over_l8_E v1080 v1081 v1082 v1083 v1084 (Int.tmod (IntKind.i64.wrap (v1886 * (nth (nget s.2.2.1 (nth (List.set (List.set s.2.2.2.1 (Int.toNat v1885) (nth s.2.2.2.1 (Int.toNat (((s.2.2.2.2).length : Nat) : Int)))) (Int.toNat (((s.2.2.2.2).length : Nat) : Int)) (nth s.2.2.2.1 (Int.toNat v1885))) (Int.toNat (((s.2.2.2.2).length : Nat) : Int)))) (Int.toNat s.2.1)))) v1083) s.2.1 (((s.2.2.2.2).length : Nat) : Int) v1887 (((nget s.2.2.1 (nth (List.set (List.set s.2.2.2.1 (Int.toNat v1885) (nth s.2.2.2.1 (Int.toNat (((s.2.2.2.2).length : Nat) : Int)))) (Int.toNat (((s.2.2.2.2).length : Nat) : Int)) (nth s.2.2.2.1 (Int.toNat v1885))) (Int.toNat (((s.2.2.2.2).length : Nat) : Int)))).length : Nat) : Int) (List.set (List.set s.2.2.2.1 (Int.toNat v1885) (nth s.2.2.2.1 (Int.toNat (((s.2.2.2.2).length : Nat) : Int)))) (Int.toNat (((s.2.2.2.2).length : Nat) : Int)) (nth s.2.2.2.1 (Int.toNat v1885))) s.2.2.2.2 ((0 : Int), s.2.2.1))) <|
     (.call (impl_Whole_over_l8_g v1083 (Int.tmod (IntKind.i64.wrap (v1886 * (nth (nget s.2.2.1 (nth (List.set (List.set s.2.2.2.1 (Int.toNat v1885) (nth s.2.2.2.1 (Int.toNat (((s.2.2.2.2).length : Nat) : Int)))) (Int.toNat (((s.2.2.2.2).length : Nat) : Int)) (nth s.2.2.2.1 (Int.toNat v1885))) (Int.toNat (((s.2.2.2.2).length : Nat) : Int)))) (Int.toNat s.2.1)))) v1083) s.2.1 (((s.2.2.2.2).length : Nat) : Int) v1887 (((nget s.2.2.1 (nth (List.set (List.set s.2.2.2.1 (Int.toNat v1885) (nth s.2.2.2.1 (Int.toNat (((s.2.2.2.2).length : Nat) : Int)))) (Int.toNat (((s.2.2.2.2).length : Nat) : Int)) (nth s.2.2.2.1 (Int.toNat v1885))) (Int.toNat (((s.2.2.2.2).length : Nat) : Int)))).length : Nat) : Int) (List.set (List.set s.2.2.2.1 (Int.toNat v1885) (nth s.2.2.2.1 (Int.toNat (((s.2.2.2.2).length : Nat) : Int)))) (Int.toNat (((s.2.2.2.2).length : Nat) : Int)) (nth s.2.2.2.1 (Int.toNat v1885))) s.2.2.2.2 ((0 : Int), s.2.2.1)) fun v1915 =>
     (.need (some (impl_Whole_over_l10_E v1080 v1081 v1082 v1083 v1084 (Int.tmod (IntKind.i64.wrap (v1886 * (nth (nget s.2.2.1 (nth (List.set (List.set s.2.2.2.1 (Int.toNat v1885) (nth s.2.2.2.1 (Int.toNat (((s.2.2.2.2).length : Nat) : Int)))) (Int.toNat (((s.2.2.2.2).length : Nat) : Int)) (nth s.2.2.2.1 (Int.toNat v1885))) (Int.toNat (((s.2.2.2.2).length : Nat) : Int)))) (Int.toNat s.2.1)))) v1083) s.2.1 (((s.2.2.2.2).length : Nat) : Int) ((((List.set (List.set s.2.2.2.1 (Int.toNat v1885) (nth s.2.2.2.1 (Int.toNat (((s.2.2.2.2).length : Nat) : Int)))) (Int.toNat (((s.2.2.2.2).length : Nat) : Int)) (nth s.2.2.2.1 (Int.toNat v1885)))).length : Nat) : Int) (List.set (List.set s.2.2.2.1 (Int.toNat v1885) (nth s.2.2.2.1 (Int.toNat (((s.2.2.2.2).length : Nat) : Int)))) (Int.toNat (((s.2.2.2.2).length : Nat) : Int)) (nth s.2.2.2.1 (Int.toNat v1885))) s.2.2.2.2 ((0 : Int), v1915)) = some (impl_Whole_over_l10_E v1080 v1081 v1082 v1083 v1084 (Int.tmod (IntKind.i64.wrap (v1886 * (nth (nget s.2.2.1 (nth (List.set (List.set s.2.2.2.1 (Int.toNat v1885) (nth s.2.2.2.1 (Int.toNat (((s.2.2.2.2).length : Nat) : Int)))) (Int.toNat (((s.2.2.2.2).length : Nat) : Int)) (nth s.2.2.2.1 (Int.toNat v1885))) (Int.toNat (((s.2.2.2.2).length : Nat) : Int)))) (Int.toNat s.2.1)))) v1083) s.2.1 (((s.2.2.2.2).length : Nat) : Int) ((((List.set (List.set s.2.2.2.1 (Int.toNat v1885) (nth s.2.2.2.1 (Int.toNat (((s.2.2.2.2).length : Nat) : Int)))) (Int.toNat (((s.2.2.2.2).length : Nat) : Int)) (nth s.2.2.2.1 (Int.toNat v1885)))).length : Nat) : Int) (List.set (List.set s.2.2.2.1 (Int.toNat v1885) (nth s.2.2.2.1 (Int.toNat (((s.2.2.2.2).length : Nat) : Int)))) (Int.toNat (((s.2.2.2.2).length : Nat) : Int)) (nth s.2.2.2.1 (Int.toNat v1885))) s.2.2.2.2 ((0 : Int), v1915))) <|
     (.call (impl_Whole_over_l10_g v1080 v1081 v1082 v1083 v1084 (Int.tmod (IntKind.i64.wrap (v1886 * (nth (nget s.2.2.1 (nth (List.set (List.set s.2.2.2.1 (Int.toNat v1885) (nth s.2.2.2.1 (Int.toNat (((s.2.2.2.2).length : Nat) : Int)))) (Int.toNat (((s.2.2.2.2).length : Nat) : Int)) (nth s.2.2.2.1 (Int.toNat v1885))) (Int.toNat (((s.2.2.2.2).length : Nat) : Int)))) (Int.toNat s.2.1)))) v1083) s.2.1 (((s.2.2.2.2).length : Nat) : Int) ((((List.set (List.set s.2.2.2.1 (Int.toNat v1885) (nth s.2.2.2.1 (Int.toNat (((s.2.2.2.2).length : Nat) : Int)))) (Int.toNat (((s.2.2.2.2).length : Nat) : Int)) (nth s.2.2.2.1 (Int.toNat v1885)))).length : Nat) : Int) (List.set (List.set s.2.2.2.1 (Int.toNat v1885) (nth s.2.2.2.1 (Int.toNat (((s.2.2.2.2).length : Nat) : Int)))) (Int.toNat (((s.2.2.2.2).length : Nat) : Int)) (nth s.2.2.2.1 (Int.toNat v1885))) s.2.2.2.2 ((0 : Int), v1915)) fun v2060 =>
     (.grd (fits (s.2.2.2.2 ++ ([s.2.1] : List Int)).length) <|
     .leaf (.inl ((Int.tmod (IntKind.i64.wrap (v1886 * (nth (nget s.2.2.1 (nth (List.set (List.set s.2.2.2.1 (Int.toNat v1885) (nth s.2.2.2.1 (Int.toNat (((s.2.2.2.2).length : Nat) : Int)))) (Int.toNat (((s.2.2.2.2).length : Nat) : Int)) (nth s.2.2.2.1 (Int.toNat v1885))) (Int.toNat (((s.2.2.2.2).length : Nat) : Int)))) (Int.toNat s.2.1)))) v1083), IntKind.i64.wrap (s.2.1 + (1 : Int)), v2060, (List.set (List.set s.2.2.2.1 (Int.toNat v1885) (nth s.2.2.2.1 (Int.toNat (((s.2.2.2.2).length : Nat) : Int)))) (Int.toNat (((s.2.2.2.2).length : Nat) : Int)) (nth s.2.2.2.1 (Int.toNat v1885))), s.2.2.2.2 ++ ([s.2.1] : List Int))))))))))))))))))
    ) (
     (.grd (inb (((s.2.2.2.2).length : Nat) : Int) ((s.2.2.2.1).length)) <|
     (.grd (inb s.2.1 ((nget s.2.2.1 (nth s.2.2.2.1 (Int.toNat (((s.2.2.2.2).length : Nat) : Int)))).length)) <|
     (.grd (!decide (v1083 = 0)) <|
     (.call (impl_backOver_g (nth (nget s.2.2.1 (nth s.2.2.2.1 (Int.toNat (((s.2.2.2.2).length : Nat) : Int)))) (Int.toNat s.2.1)) v1083) fun v2061 =>
     (.grd (inb (((s.2.2.2.2).length : Nat) : Int) ((s.2.2.2.1).length)) <|
     (.need (some (impl_Whole_over_l8_E v1080 v1081 v1082 v1083 v1084 (Int.tmod (IntKind.i64.wrap (s.1 * (nth (nget s.2.2.1 (nth s.2.2.2.1 (Int.toNat (((s.2.2.2.2).length : Nat) : Int)))) (Int.toNat s.2.1)))) v1083) s.2.1 (((s.2.2.2.2).length : Nat) : Int) v2061 (((nget s.2.2.1 (nth s.2.2.2.1 (Int.toNat (((s.2.2.2.2).length : Nat) : Int)))).length : Nat) : Int) s.2.2.2.1 s.2.2.2.2 ((0 : Int), s.2.2.1)) = some (impl_Whole_over_l8_E v1080 v1081 v1082 v1083 v1084 (Int.tmod (IntKind.i64.wrap (s.1 * (nth (nget s.2.2.1 (nth s.2.2.2.1 (Int.toNat (((s.2.2.2.2).length : Nat) : Int)))) (Int.toNat s.2.1)))) v1083) s.2.1 (((s.2.2.2.2).length : Nat) : Int) v2061 (((nget s.2.2.1 (nth s.2.2.2.1 (Int.toNat (((s.2.2.2.2).length : Nat) : Int)))).length : Nat) : Int) s.2.2.2.1 s.2.2.2.2 ((0 : Int), s.2.2.1))) <|
     (.call (impl_Whole_over_l8_g v1083 (Int.tmod (IntKind.i64.wrap (s.1 * (nth (nget s.2.2.1 (nth s.2.2.2.1 (Int.toNat (((s.2.2.2.2).length : Nat) : Int)))) (Int.toNat s.2.1)))) v1083) s.2.1 (((s.2.2.2.2).length : Nat) : Int) v2061 (((nget s.2.2.1 (nth s.2.2.2.1 (Int.toNat (((s.2.2.2.2).length : Nat) : Int)))).length : Nat) : Int) s.2.2.2.1 s.2.2.2.2 ((0 : Int), s.2.2.1)) fun v2089 =>
     (.need (some (impl_Whole_over_l10_E v1080 v1081 v1082 v1083 v1084 (Int.tmod (IntKind.i64.wrap (s.1 * (nth (nget s.2.2.1 (nth s.2.2.2.1 (Int.toNat (((s.2.2.2.2).length : Nat) : Int)))) (Int.toNat s.2.1)))) v1083) s.2.1 (((s.2.2.2.2).length : Nat) : Int) (((s.2.2.2.1).length : Nat) : Int) s.2.2.2.1 s.2.2.2.2 ((0 : Int), v2089)) = some (impl_Whole_over_l10_E v1080 v1081 v1082 v1083 v1084 (Int.tmod (IntKind.i64.wrap (s.1 * (nth (nget s.2.2.1 (nth s.2.2.2.1 (Int.toNat (((s.2.2.2.2).length : Nat) : Int)))) (Int.toNat s.2.1)))) v1083) s.2.1 (((s.2.2.2.2).length : Nat) : Int) (((s.2.2.2.1).length : Nat) : Int) s.2.2.2.1 s.2.2.2.2 ((0 : Int), v2089))) <|
     (.call (impl_Whole_over_l10_g v1080 v1081 v1082 v1083 v1084 (Int.tmod (IntKind.i64.wrap (s.1 * (nth (nget s.2.2.1 (nth s.2.2.2.1 (Int.toNat (((s.2.2.2.2).length : Nat) : Int)))) (Int.toNat s.2.1)))) v1083) s.2.1 (((s.2.2.2.2).length : Nat) : Int) (((s.2.2.2.1).length : Nat) : Int) s.2.2.2.1 s.2.2.2.2 ((0 : Int), v2089)) fun v2234 =>
     (.grd (fits (s.2.2.2.2 ++ ([s.2.1] : List Int)).length) <|
     .leaf (.inl ((Int.tmod (IntKind.i64.wrap (s.1 * (nth (nget s.2.2.1 (nth s.2.2.2.1 (Int.toNat (((s.2.2.2.2).length : Nat) : Int)))) (Int.toNat s.2.1)))) v1083), IntKind.i64.wrap (s.2.1 + (1 : Int)), v2234, s.2.2.2.1, s.2.2.2.2 ++ ([s.2.1] : List Int)))))))))))))
    ))
   ))))
  ) (
   .leaf (.inr (s.1, s.2.2.1, s.2.2.2.1, s.2.2.2.2))
  ))

noncomputable def impl_Whole_over_l4_g (v1080 : Int) (v1081 : Int) (v1082 : List Int) (v1083 : Int) (v1084 : List Int) (s0 : Int × Int × (List (List Int)) × (List Nat) × (List Int)) : Option (Int × (List (List Int)) × (List Nat) × (List Int)) := whileM (fun s => (impl_Whole_over_l4_T v1080 v1081 v1082 v1083 v1084 s).run) s0
def impl_Whole_over_l4_E (v1080 : Int) (v1081 : Int) (v1082 : List Int) (v1083 : Int) (v1084 : List Int) (s : Int × Int × (List (List Int)) × (List Nat) × (List Int)) : Sd := ([.top, .int .i64 v1083, .top, .top, .top, .top, .top, .top, .top, .nest 0 0 1 ((s.2.2.2.1).length), .own 1 0 ((s.2.2.2.2).length), .int .i64 s.1, .top, .top, .top, .top, .top, .top, .top, .top, .top, .top, .top, .top, .top, .top, .top, .top, .top, .top, .top, .top, .top, .top, .top, .top, .top, .top, .top, .top, .top, .top, .top, .top, .top, .top, .top, .top, .top, .top, .top, .top, .top, .top, .top, .top, .top, .top, .top, .top, .top, .top, .top, .top, .top, .int .i64 v1081, .int .i64 s.2.1, .top, .top, .top, .top, .top, .top, .top, .top, .top, .top, .top, .top, .top, .top, .top, .top, .top, .top, .top, .top, .top, .top, .top, .top, .top, .top, .top, .top, .top, .top, .top, .top, .top, .top, .top, .top, .top, .top, .top, .top, .top, .top, .top, .top, .top, .top, .top, .top, .top, .top, .top, .top, .top, .top, .top, .top, .top, .top, .top, .top, .top, .top, .top, .top, .top, .top, .top, .top, .top, .top, .top, .top, .top, .top, .top, .top, .top, .top, .top, .top, .top, .top, .top, .top, .top, .top, .top, .top, .top, .top, .top, .top, .top, .top, .top, .top, .top, .top, .top, .top, .top, .top, .top, .top, .top, .top, .top, .top, .top, .top, .top, .top, .top, .top, .top, .top, .top, .top, .top, .top, .top, .top, .top, .top, .top, .top, .top, .top, .top, .top, .top, .top, .top, .top, .top, .top, .top, .top, .top], [.nest [.sl (.i64 s.2.2.1) s.2.2.2.1] false 0, .row (.i64 s.2.2.2.2) 0])
def impl_Whole_over_l4_X (v1080 : Int) (v1081 : Int) (v1082 : List Int) (v1083 : Int) (v1084 : List Int) (x : Int × (List (List Int)) × (List Nat) × (List Int)) : Out := (.normal, [.top, .top, .top, .top, .top, .top, .top, .top, .top, .nest 0 0 1 ((x.2.2.1).length), .own 1 0 ((x.2.2.2).length), .int .i64 x.1, .top, .top, .top, .top, .top, .top, .top, .top, .top, .top, .top, .top, .top, .top, .top, .top, .top, .top, .top, .top, .top, .top, .top, .top, .top, .top, .top, .top, .top, .top, .top, .top, .top, .top, .top, .top, .top, .top, .top, .top, .top, .top, .top, .top, .top, .top, .top, .top, .top, .top, .top, .top, .top, .top, .top, .top, .top, .top, .top, .top, .top, .top, .top, .top, .top, .top, .top, .top, .top, .top, .top, .top, .top, .top, .top, .top, .top, .top, .top, .top, .top, .top, .top, .top, .top, .top, .top, .top, .top, .top, .top, .top, .top, .top, .top, .top, .top, .top, .top, .top, .top, .top, .top, .top, .top, .top, .top, .top, .top, .top, .top, .top, .top, .top, .top, .top, .top, .top, .top, .top, .top, .top, .top, .top, .top, .top, .top, .top, .top, .top, .top, .top, .top, .top, .top, .top, .top, .top, .top, .top, .top, .top, .top, .top, .top, .top, .top, .top, .top, .top, .top, .top, .top, .top, .top, .top, .top, .top, .top, .top, .top, .top, .top, .top, .top, .top, .top, .top, .top, .top, .top, .top, .top, .top, .top, .top, .top, .top, .top, .top, .top, .top, .top, .top, .top, .top, .top, .top, .top, .top, .top, .top, .top, .top], [.nest [.sl (.i64 x.2.1) x.2.2.1] false 0, .row (.i64 x.2.2.2) 0])
def impl_Whole_over_l4_kill : List Nat := [1, 0, 1, 1, 1, 1, 1, 1, 1, 0, 0, 0, 1, 1, 1, 1, 1, 1, 1, 1, 1, 1, 1, 1, 1, 1, 1, 1, 1, 1, 1, 1, 1, 1, 1, 1, 1, 1, 1, 1, 1, 1, 1, 1, 1, 1, 1, 1, 1, 1, 1, 1, 1, 1, 1, 1, 1, 1, 1, 1, 1, 1, 1, 1, 1, 0, 0, 1, 1, 1, 1, 1, 1, 1, 1, 1, 1, 1, 1, 1, 1, 1, 1, 1, 1, 1, 1, 1, 1, 1, 1, 1, 1, 1, 1, 1, 1, 1, 1, 1, 1, 1, 1, 1, 1, 1, 1, 1, 1, 1, 1, 1, 1, 1, 1, 1, 1, 1, 1, 1, 1, 1, 1, 1, 1, 1, 1, 1, 1, 1, 1, 1, 1, 1, 1, 1, 1, 1, 1, 1, 1, 1, 1, 1, 1, 1, 1, 1, 1, 1, 1, 1, 1, 1, 1, 1, 1, 1, 1, 1, 1, 1, 1, 1, 1, 1, 1, 1, 1, 1, 1, 1, 1, 1, 1, 1, 1, 1, 1, 1, 1, 1, 1, 1, 1, 1, 1, 1, 1, 1, 1, 1, 1, 1, 1, 1, 1, 1, 1, 1, 1, 1, 1, 1, 1, 1]
def impl_Whole_over_l4_nx : Exit → List Nat
  | .exit 4 => [1, 1, 1, 1, 1, 1, 1, 1, 1, 0, 0, 0, 1, 1, 1, 1, 1, 1, 1, 1, 1, 1, 1, 1, 1, 1, 1, 1, 1, 1, 1, 1, 1, 1, 1, 1, 1, 1, 1, 1, 1, 1, 1, 1, 1, 1, 1, 1, 1, 1, 1, 1, 1, 1, 1, 1, 1, 1, 1, 1, 1, 1, 1, 1, 1, 1, 1, 1, 1, 1, 1, 1, 1, 1, 1, 1, 1, 1, 1, 1, 1, 1, 1, 1, 1, 1, 1, 1, 1, 1, 1, 1, 1, 1, 1, 1, 1, 1, 1, 1, 1, 1, 1, 1, 1, 1, 1, 1, 1, 1, 1, 1, 1, 1, 1, 1, 1, 1, 1, 1, 1, 1, 1, 1, 1, 1, 1, 1, 1, 1, 1, 1, 1, 1, 1, 1, 1, 1, 1, 1, 1, 1, 1, 1, 1, 1, 1, 1, 1, 1, 1, 1, 1, 1, 1, 1, 1, 1, 1, 1, 1, 1, 1, 1, 1, 1, 1, 1, 1, 1, 1, 1, 1, 1, 1, 1, 1, 1, 1, 1, 1, 1, 1, 1, 1, 1, 1, 1, 1, 1, 1, 1, 1, 1, 1, 1, 1, 1, 1, 1, 1, 1, 1, 1, 1, 1]
  | .ret => [1, 1, 1, 1, 1, 1, 0, 0, 0, 1, 1, 1, 1, 1, 1, 1, 1, 1, 1, 1, 1, 1, 1, 1, 1, 1, 1, 1, 1, 1, 1, 1, 1, 1, 1, 1, 1, 1, 1, 1, 1, 1, 1, 1, 1, 1, 1, 1, 1, 1, 1, 1, 1, 1, 1, 1, 1, 1, 1, 1, 1, 1, 1, 1, 1, 1, 1, 1, 1, 1, 1, 1, 1, 1, 1, 1, 1, 1, 1, 1, 1, 1, 1, 1, 1, 1, 1, 1, 1, 1, 1, 1, 1, 1, 1, 1, 1, 1, 1, 1, 1, 1, 1, 1, 1, 1, 1, 1, 1, 1, 1, 1, 1, 1, 1, 1, 1, 1, 1, 1, 1, 1, 1, 1, 1, 1, 1, 1, 1, 1, 1, 1, 1, 1, 1, 1, 1, 1, 1, 1, 1, 1, 1, 1, 1, 1, 1, 1, 1, 1, 1, 1, 1, 1, 1, 1, 1, 1, 1, 1, 1, 1, 1, 1, 1, 1, 1, 1, 1, 1, 1, 1, 1, 1, 1, 1, 1, 1, 1, 1, 1, 1, 1, 1, 1, 1, 1, 1, 1, 1, 1, 1, 1, 1, 1, 1, 1, 1, 1, 1, 1, 1, 1, 1, 1, 1]
  | _ => []
noncomputable def impl_Whole_over_LO (v1080 : Int) (v1081 : Int) (v1082 : List Int) (v1083 : Int) (v1084 : List Int) : LOr := fun id e L =>
  match id with
  | 2 => .need (normA 0 impl_Whole_over_l2_kill e L = some (impl_Whole_over_l2_E v1080 v1081 v1082 v1083 v1084 (gI (vAt e 30)) (gI (vAt e 46)) (gPI L (vAt e 9) 0) (gX L (vAt e 9) 0) ((gI (vAt e 47)), (gRI L (vAt e 13))))) (.call (impl_Whole_over_l2_g v1083 (gI (vAt e 30)) (gI (vAt e 46)) (gPI L (vAt e 9) 0) (gX L (vAt e 9) 0) ((gI (vAt e 47)), (gRI L (vAt e 13)))) fun x => .leaf (impl_Whole_over_l2_X v1080 v1081 v1082 v1083 v1084 (gI (vAt e 30)) (gI (vAt e 46)) (gPI L (vAt e 9) 0) (gX L (vAt e 9) 0) x))
  | 0 => .need (normA 0 impl_Whole_over_l0_kill e L = some (impl_Whole_over_l0_E v1080 v1081 v1082 v1083 v1084 ((gI (vAt e 30)), (gPI L (vAt e 9) 0), (gX L (vAt e 9) 0)))) (.call (impl_Whole_over_l0_g v1080 v1081 v1082 v1083 v1084 ((gI (vAt e 30)), (gPI L (vAt e 9) 0), (gX L (vAt e 9) 0))) fun x => .leaf (impl_Whole_over_l0_X v1080 v1081 v1082 v1083 v1084 x))
  | 6 => .need (normA 0 impl_Whole_over_l6_kill e L = some (impl_Whole_over_l6_E v1080 v1081 v1082 v1083 v1084 (gI (vAt e 11)) (gI (vAt e 16)) (gI (vAt e 17)) (gPI L (vAt e 9) 0) (gX L (vAt e 9) 0) (gRI L (vAt e 10)) (gI (vAt e 18)))) (.call (impl_Whole_over_l6_g (gI (vAt e 11)) (gI (vAt e 16)) (gI (vAt e 17)) (gPI L (vAt e 9) 0) (gX L (vAt e 9) 0) (gRI L (vAt e 10)) (gI (vAt e 18))) fun x => .leaf (impl_Whole_over_l6_X v1080 v1081 v1082 v1083 v1084 (gI (vAt e 11)) (gI (vAt e 16)) (gI (vAt e 17)) (gPI L (vAt e 9) 0) (gX L (vAt e 9) 0) (gRI L (vAt e 10)) x))
  | 8 => .need (normA 0 impl_Whole_over_l8_kill e L = some (impl_Whole_over_l8_E v1080 v1081 v1082 v1083 v1084 (gI (vAt e 11)) (gI (vAt e 16)) (gI (vAt e 17)) (gI (vAt e 20)) (gI (vAt e 132)) (gX L (vAt e 9) 0) (gRI L (vAt e 10)) ((gI (vAt e 133)), (gPI L (vAt e 9) 0)))) (.call (impl_Whole_over_l8_g v1083 (gI (vAt e 11)) (gI (vAt e 16)) (gI (vAt e 17)) (gI (vAt e 20)) (gI (vAt e 132)) (gX L (vAt e 9) 0) (gRI L (vAt e 10)) ((gI (vAt e 133)), (gPI L (vAt e 9) 0))) fun x => .leaf (impl_Whole_over_l8_X v1080 v1081 v1082 v1083 v1084 (gI (vAt e 11)) (gI (vAt e 16)) (gI (vAt e 17)) (gI (vAt e 20)) (gI (vAt e 132)) (gX L (vAt e 9) 0) (gRI L (vAt e 10)) x))
  | 12 => .need (normA 0 impl_Whole_over_l12_kill e L = some (impl_Whole_over_l12_E v1080 v1081 v1082 v1083 v1084 (gI (vAt e 11)) (gI (vAt e 16)) (gI (vAt e 17)) (gK (vAt e 23)) (gI (vAt e 24)) (gI (vAt e 155)) (gI (vAt e 156)) (gI (vAt e 173)) (gX L (vAt e 9) 0) (gRI L (vAt e 10)) ((gI (vAt e 174)), (gPI L (vAt e 9) 0)))) (.call (impl_Whole_over_l12_g v1083 (gI (vAt e 11)) (gI (vAt e 16)) (gI (vAt e 17)) (gK (vAt e 23)) (gI (vAt e 24)) (gI (vAt e 155)) (gI (vAt e 156)) (gI (vAt e 173)) (gX L (vAt e 9) 0) (gRI L (vAt e 10)) ((gI (vAt e 174)), (gPI L (vAt e 9) 0))) fun x => .leaf (impl_Whole_over_l12_X v1080 v1081 v1082 v1083 v1084 (gI (vAt e 11)) (gI (vAt e 16)) (gI (vAt e 17)) (gK (vAt e 23)) (gI (vAt e 24)) (gI (vAt e 155)) (gI (vAt e 156)) (gI (vAt e 173)) (gX L (vAt e 9) 0) (gRI L (vAt e 10)) x))
  | 10 => .need (normA 0 impl_Whole_over_l10_kill e L = some (impl_Whole_over_l10_E v1080 v1081 v1082 v1083 v1084 (gI (vAt e 11)) (gI (vAt e 16)) (gI (vAt e 17)) (gI (vAt e 155)) (gX L (vAt e 9) 0) (gRI L (vAt e 10)) ((gI (vAt e 156)), (gPI L (vAt e 9) 0)))) (.call (impl_Whole_over_l10_g v1080 v1081 v1082 v1083 v1084 (gI (vAt e 11)) (gI (vAt e 16)) (gI (vAt e 17)) (gI (vAt e 155)) (gX L (vAt e 9) 0) (gRI L (vAt e 10)) ((gI (vAt e 156)), (gPI L (vAt e 9) 0))) fun x => .leaf (impl_Whole_over_l10_X v1080 v1081 v1082 v1083 v1084 (gI (vAt e 11)) (gI (vAt e 16)) (gI (vAt e 17)) (gI (vAt e 155)) (gX L (vAt e 9) 0) (gRI L (vAt e 10)) x))
  | 4 => .need (normA 0 impl_Whole_over_l4_kill e L = some (impl_Whole_over_l4_E v1080 v1081 v1082 v1083 v1084 ((gI (vAt e 11)), (gI (vAt e 66)), (gPI L (vAt e 9) 0), (gX L (vAt e 9) 0), (gRI L (vAt e 10))))) (.call (impl_Whole_over_l4_g v1080 v1081 v1082 v1083 v1084 ((gI (vAt e 11)), (gI (vAt e 66)), (gPI L (vAt e 9) 0), (gX L (vAt e 9) 0), (gRI L (vAt e 10)))) fun x => .leaf (impl_Whole_over_l4_X v1080 v1081 v1082 v1083 v1084 x))
  | _ => .fail
noncomputable def impl_Whole_over_tab : List (FuncId × DFn × Bool) := [(127, impl_Whole_row_F, true), (70, impl_rest_F, true), (123, impl_backOver_F, true)]
theorem impl_Whole_over_hO : OrcOk Try.prog (tabD impl_Whole_over_tab) (tabM impl_Whole_over_tab) := tabD_cons impl_Whole_row_Fok (tabD_cons impl_rest_Fok (tabD_cons impl_backOver_Fok (tabD_nil _)))
theorem impl_Whole_over_l2_be (v1080 : Int) (v1081 : Int) (v1082 : List Int) (v1083 : Int) (v1084 : List Int) (v1155 : Int) (v1156 : Int) (v1158 : List (List Int)) (v1159 : List Nat) (s : Int × (List Int)) : bodyT TT (tabD impl_Whole_over_tab) (tabM impl_Whole_over_tab) (impl_Whole_over_LO v1080 v1081 v1082 v1083 v1084) 0 impl_Whole_over_l2_kill impl_Whole_over_l2_nx (bodyOf Try.f64 2) 2 (impl_Whole_over_l2_E v1080 v1081 v1082 v1083 v1084 v1155 v1156 v1158 v1159 s) = (impl_Whole_over_l2_T v1083 v1155 v1156 v1158 v1159 s).bind fun y => .leaf (outS (impl_Whole_over_l2_E v1080 v1081 v1082 v1083 v1084 v1155 v1156 v1158 v1159) (impl_Whole_over_l2_X v1080 v1081 v1082 v1083 v1084 v1155 v1156 v1158 v1159) y) := by kernel_rfl
theorem impl_Whole_over_l2_ok (v1080 : Int) (v1081 : Int) (v1082 : List Int) (v1083 : Int) (v1084 : List Int) : LSound Try.prog 0 (impl_Whole_over_LO v1080 v1081 v1082 v1083 v1084) 2 (bodyOf Try.f64 2) := by
  intro e L out h
  exact lo_ok (E := impl_Whole_over_l2_E v1080 v1081 v1082 v1083 v1084 (gI (vAt e 30)) (gI (vAt e 46)) (gPI L (vAt e 9) 0) (gX L (vAt e 9) 0)) (gT := impl_Whole_over_l2_T v1083 (gI (vAt e 30)) (gI (vAt e 46)) (gPI L (vAt e 9) 0) (gX L (vAt e 9) 0)) (X := impl_Whole_over_l2_X v1080 v1081 v1082 v1083 v1084 (gI (vAt e 30)) (gI (vAt e 46)) (gPI L (vAt e 9) 0) (gX L (vAt e 9) 0)) (s0 := ((gI (vAt e 47)), (gRI L (vAt e 13)))) tok impl_Whole_over_hO mixed (LoopsOk_eq (l := []) (by kernel_rfl) trivial) (impl_Whole_over_l2_be v1080 v1081 v1082 v1083 v1084 (gI (vAt e 30)) (gI (vAt e 46)) (gPI L (vAt e 9) 0) (gX L (vAt e 9) 0)) rfl (by intro x; rfl) h
theorem impl_Whole_over_l0_be (v1080 : Int) (v1081 : Int) (v1082 : List Int) (v1083 : Int) (v1084 : List Int) (s : Int × (List (List Int)) × (List Nat)) : bodyT TT (tabD impl_Whole_over_tab) (tabM impl_Whole_over_tab) (impl_Whole_over_LO v1080 v1081 v1082 v1083 v1084) 0 impl_Whole_over_l0_kill impl_Whole_over_l0_nx (bodyOf Try.f64 0) 0 (impl_Whole_over_l0_E v1080 v1081 v1082 v1083 v1084 s) = (impl_Whole_over_l0_T v1080 v1081 v1082 v1083 v1084 s).bind fun y => .leaf (outS (impl_Whole_over_l0_E v1080 v1081 v1082 v1083 v1084) (impl_Whole_over_l0_X v1080 v1081 v1082 v1083 v1084) y) := by kernel_rfl
theorem impl_Whole_over_l0_ok (v1080 : Int) (v1081 : Int) (v1082 : List Int) (v1083 : Int) (v1084 : List Int) : LSound Try.prog 0 (impl_Whole_over_LO v1080 v1081 v1082 v1083 v1084) 0 (bodyOf Try.f64 0) := by
  intro e L out h
  exact lo_ok (E := impl_Whole_over_l0_E v1080 v1081 v1082 v1083 v1084) (gT := impl_Whole_over_l0_T v1080 v1081 v1082 v1083 v1084) (X := impl_Whole_over_l0_X v1080 v1081 v1082 v1083 v1084) (s0 := ((gI (vAt e 30)), (gPI L (vAt e 9) 0), (gX L (vAt e 9) 0))) tok impl_Whole_over_hO mixed (LoopsOk_eq (l := [(2, bodyOf Try.f64 2)]) (by kernel_rfl) ⟨impl_Whole_over_l2_ok v1080 v1081 v1082 v1083 v1084, trivial⟩) (impl_Whole_over_l0_be v1080 v1081 v1082 v1083 v1084) rfl (by intro x; rfl) h
theorem impl_Whole_over_l6_be (v1080 : Int) (v1081 : Int) (v1082 : List Int) (v1083 : Int) (v1084 : List Int) (v1878 : Int) (v1879 : Int) (v1880 : Int) (v1882 : List (List Int)) (v1883 : List Nat) (v1884 : List Int) (s : Int) : bodyT TT (tabD impl_Whole_over_tab) (tabM impl_Whole_over_tab) (impl_Whole_over_LO v1080 v1081 v1082 v1083 v1084) 0 impl_Whole_over_l6_kill impl_Whole_over_l6_nx (bodyOf Try.f64 6) 6 (impl_Whole_over_l6_E v1080 v1081 v1082 v1083 v1084 v1878 v1879 v1880 v1882 v1883 v1884 s) = (impl_Whole_over_l6_T v1878 v1879 v1880 v1882 v1883 v1884 s).bind fun y => .leaf (outS (impl_Whole_over_l6_E v1080 v1081 v1082 v1083 v1084 v1878 v1879 v1880 v1882 v1883 v1884) (impl_Whole_over_l6_X v1080 v1081 v1082 v1083 v1084 v1878 v1879 v1880 v1882 v1883 v1884) y) := by kernel_rfl
theorem impl_Whole_over_l6_ok (v1080 : Int) (v1081 : Int) (v1082 : List Int) (v1083 : Int) (v1084 : List Int) : LSound Try.prog 0 (impl_Whole_over_LO v1080 v1081 v1082 v1083 v1084) 6 (bodyOf Try.f64 6) := by
  intro e L out h
  exact lo_ok (E := impl_Whole_over_l6_E v1080 v1081 v1082 v1083 v1084 (gI (vAt e 11)) (gI (vAt e 16)) (gI (vAt e 17)) (gPI L (vAt e 9) 0) (gX L (vAt e 9) 0) (gRI L (vAt e 10))) (gT := impl_Whole_over_l6_T (gI (vAt e 11)) (gI (vAt e 16)) (gI (vAt e 17)) (gPI L (vAt e 9) 0) (gX L (vAt e 9) 0) (gRI L (vAt e 10))) (X := impl_Whole_over_l6_X v1080 v1081 v1082 v1083 v1084 (gI (vAt e 11)) (gI (vAt e 16)) (gI (vAt e 17)) (gPI L (vAt e 9) 0) (gX L (vAt e 9) 0) (gRI L (vAt e 10))) (s0 := (gI (vAt e 18))) tok impl_Whole_over_hO mixed (LoopsOk_eq (l := []) (by kernel_rfl) trivial) (impl_Whole_over_l6_be v1080 v1081 v1082 v1083 v1084 (gI (vAt e 11)) (gI (vAt e 16)) (gI (vAt e 17)) (gPI L (vAt e 9) 0) (gX L (vAt e 9) 0) (gRI L (vAt e 10))) rfl (by intro x; rfl) h
theorem impl_Whole_over_l8_be (v1080 : Int) (v1081 : Int) (v1082 : List Int) (v1083 : Int) (v1084 : List Int) (v1906 : Int) (v1907 : Int) (v1908 : Int) (v1909 : Int) (v1910 : Int) (v1913 : List Nat) (v1914 : List Int) (s : Int × (List (List Int))) : bodyT TT (tabD impl_Whole_over_tab) (tabM impl_Whole_over_tab) (impl_Whole_over_LO v1080 v1081 v1082 v1083 v1084) 0 impl_Whole_over_l8_kill impl_Whole_over_l8_nx (bodyOf Try.f64 8) 8 (impl_Whole_over_l8_E v1080 v1081 v1082 v1083 v1084 v1906 v1907 v1908 v1909 v1910 v1913 v1914 s) = (impl_Whole_over_l8_T v1083 v1906 v1907 v1908 v1909 v1910 v1913 v1914 s).bind fun y => .leaf (outS (impl_Whole_over_l8_E v1080 v1081 v1082 v1083 v1084 v1906 v1907 v1908 v1909 v1910 v1913 v1914) (impl_Whole_over_l8_X v1080 v1081 v1082 v1083 v1084 v1906 v1907 v1908 v1909 v1910 v1913 v1914) y) := by kernel_rfl
theorem impl_Whole_over_l8_ok (v1080 : Int) (v1081 : Int) (v1082 : List Int) (v1083 : Int) (v1084 : List Int) : LSound Try.prog 0 (impl_Whole_over_LO v1080 v1081 v1082 v1083 v1084) 8 (bodyOf Try.f64 8) := by
  intro e L out h
  exact lo_ok (E := impl_Whole_over_l8_E v1080 v1081 v1082 v1083 v1084 (gI (vAt e 11)) (gI (vAt e 16)) (gI (vAt e 17)) (gI (vAt e 20)) (gI (vAt e 132)) (gX L (vAt e 9) 0) (gRI L (vAt e 10))) (gT := impl_Whole_over_l8_T v1083 (gI (vAt e 11)) (gI (vAt e 16)) (gI (vAt e 17)) (gI (vAt e 20)) (gI (vAt e 132)) (gX L (vAt e 9) 0) (gRI L (vAt e 10))) (X := impl_Whole_over_l8_X v1080 v1081 v1082 v1083 v1084 (gI (vAt e 11)) (gI (vAt e 16)) (gI (vAt e 17)) (gI (vAt e 20)) (gI (vAt e 132)) (gX L (vAt e 9) 0) (gRI L (vAt e 10))) (s0 := ((gI (vAt e 133)), (gPI L (vAt e 9) 0))) tok impl_Whole_over_hO mixed (LoopsOk_eq (l := []) (by kernel_rfl) trivial) (impl_Whole_over_l8_be v1080 v1081 v1082 v1083 v1084 (gI (vAt e 11)) (gI (vAt e 16)) (gI (vAt e 17)) (gI (vAt e 20)) (gI (vAt e 132)) (gX L (vAt e 9) 0) (gRI L (vAt e 10))) rfl (by intro x; rfl) h
theorem impl_Whole_over_l12_be (v1080 : Int) (v1081 : Int) (v1082 : List Int) (v1083 : Int) (v1084 : List Int) (v2046 : Int) (v2047 : Int) (v2048 : Int) (v2049 : Nat) (v2050 : Int) (v2051 : Int) (v2052 : Int) (v2053 : Int) (v2056 : List Nat) (v2057 : List Int) (s : Int × (List (List Int))) : bodyT TT (tabD impl_Whole_over_tab) (tabM impl_Whole_over_tab) (impl_Whole_over_LO v1080 v1081 v1082 v1083 v1084) 0 impl_Whole_over_l12_kill impl_Whole_over_l12_nx (bodyOf Try.f64 12) 12 (impl_Whole_over_l12_E v1080 v1081 v1082 v1083 v1084 v2046 v2047 v2048 v2049 v2050 v2051 v2052 v2053 v2056 v2057 s) = (impl_Whole_over_l12_T v1083 v2046 v2047 v2048 v2049 v2050 v2051 v2052 v2053 v2056 v2057 s).bind fun y => .leaf (outS (impl_Whole_over_l12_E v1080 v1081 v1082 v1083 v1084 v2046 v2047 v2048 v2049 v2050 v2051 v2052 v2053 v2056 v2057) (impl_Whole_over_l12_X v1080 v1081 v1082 v1083 v1084 v2046 v2047 v2048 v2049 v2050 v2051 v2052 v2053 v2056 v2057) y) := by kernel_rfl
theorem impl_Whole_over_l12_ok (v1080 : Int) (v1081 : Int) (v1082 : List Int) (v1083 : Int) (v1084 : List Int) : LSound Try.prog 0 (impl_Whole_over_LO v1080 v1081 v1082 v1083 v1084) 12 (bodyOf Try.f64 12) := by
  intro e L out h
  exact lo_ok (E := impl_Whole_over_l12_E v1080 v1081 v1082 v1083 v1084 (gI (vAt e 11)) (gI (vAt e 16)) (gI (vAt e 17)) (gK (vAt e 23)) (gI (vAt e 24)) (gI (vAt e 155)) (gI (vAt e 156)) (gI (vAt e 173)) (gX L (vAt e 9) 0) (gRI L (vAt e 10))) (gT := impl_Whole_over_l12_T v1083 (gI (vAt e 11)) (gI (vAt e 16)) (gI (vAt e 17)) (gK (vAt e 23)) (gI (vAt e 24)) (gI (vAt e 155)) (gI (vAt e 156)) (gI (vAt e 173)) (gX L (vAt e 9) 0) (gRI L (vAt e 10))) (X := impl_Whole_over_l12_X v1080 v1081 v1082 v1083 v1084 (gI (vAt e 11)) (gI (vAt e 16)) (gI (vAt e 17)) (gK (vAt e 23)) (gI (vAt e 24)) (gI (vAt e 155)) (gI (vAt e 156)) (gI (vAt e 173)) (gX L (vAt e 9) 0) (gRI L (vAt e 10))) (s0 := ((gI (vAt e 174)), (gPI L (vAt e 9) 0))) tok impl_Whole_over_hO mixed (LoopsOk_eq (l := []) (by kernel_rfl) trivial) (impl_Whole_over_l12_be v1080 v1081 v1082 v1083 v1084 (gI (vAt e 11)) (gI (vAt e 16)) (gI (vAt e 17)) (gK (vAt e 23)) (gI (vAt e 24)) (gI (vAt e 155)) (gI (vAt e 156)) (gI (vAt e 173)) (gX L (vAt e 9) 0) (gRI L (vAt e 10))) rfl (by intro x; rfl) h
theorem impl_Whole_over_l10_be (v1080 : Int) (v1081 : Int) (v1082 : List Int) (v1083 : Int) (v1084 : List Int) (v2012 : Int) (v2013 : Int) (v2014 : Int) (v2015 : Int) (v2018 : List Nat) (v2019 : List Int) (s : Int × (List (List Int))) : bodyT TT (tabD impl_Whole_over_tab) (tabM impl_Whole_over_tab) (impl_Whole_over_LO v1080 v1081 v1082 v1083 v1084) 0 impl_Whole_over_l10_kill impl_Whole_over_l10_nx (bodyOf Try.f64 10) 10 (impl_Whole_over_l10_E v1080 v1081 v1082 v1083 v1084 v2012 v2013 v2014 v2015 v2018 v2019 s) = (impl_Whole_over_l10_T v1080 v1081 v1082 v1083 v1084 v2012 v2013 v2014 v2015 v2018 v2019 s).bind fun y => .leaf (outS (impl_Whole_over_l10_E v1080 v1081 v1082 v1083 v1084 v2012 v2013 v2014 v2015 v2018 v2019) (impl_Whole_over_l10_X v1080 v1081 v1082 v1083 v1084 v2012 v2013 v2014 v2015 v2018 v2019) y) := by kernel_rfl
theorem impl_Whole_over_l10_ok (v1080 : Int) (v1081 : Int) (v1082 : List Int) (v1083 : Int) (v1084 : List Int) : LSound Try.prog 0 (impl_Whole_over_LO v1080 v1081 v1082 v1083 v1084) 10 (bodyOf Try.f64 10) := by
  intro e L out h
  exact lo_ok (E := impl_Whole_over_l10_E v1080 v1081 v1082 v1083 v1084 (gI (vAt e 11)) (gI (vAt e 16)) (gI (vAt e 17)) (gI (vAt e 155)) (gX L (vAt e 9) 0) (gRI L (vAt e 10))) (gT := impl_Whole_over_l10_T v1080 v1081 v1082 v1083 v1084 (gI (vAt e 11)) (gI (vAt e 16)) (gI (vAt e 17)) (gI (vAt e 155)) (gX L (vAt e 9) 0) (gRI L (vAt e 10))) (X := impl_Whole_over_l10_X v1080 v1081 v1082 v1083 v1084 (gI (vAt e 11)) (gI (vAt e 16)) (gI (vAt e 17)) (gI (vAt e 155)) (gX L (vAt e 9) 0) (gRI L (vAt e 10))) (s0 := ((gI (vAt e 156)), (gPI L (vAt e 9) 0))) tok impl_Whole_over_hO mixed (LoopsOk_eq (l := [(12, bodyOf Try.f64 12)]) (by kernel_rfl) ⟨impl_Whole_over_l12_ok v1080 v1081 v1082 v1083 v1084, trivial⟩) (impl_Whole_over_l10_be v1080 v1081 v1082 v1083 v1084 (gI (vAt e 11)) (gI (vAt e 16)) (gI (vAt e 17)) (gI (vAt e 155)) (gX L (vAt e 9) 0) (gRI L (vAt e 10))) rfl (by intro x; rfl) h
theorem impl_Whole_over_l4_be (v1080 : Int) (v1081 : Int) (v1082 : List Int) (v1083 : Int) (v1084 : List Int) (s : Int × Int × (List (List Int)) × (List Nat) × (List Int)) : bodyT TT (tabD impl_Whole_over_tab) (tabM impl_Whole_over_tab) (impl_Whole_over_LO v1080 v1081 v1082 v1083 v1084) 0 impl_Whole_over_l4_kill impl_Whole_over_l4_nx (bodyOf Try.f64 4) 4 (impl_Whole_over_l4_E v1080 v1081 v1082 v1083 v1084 s) = (impl_Whole_over_l4_T v1080 v1081 v1082 v1083 v1084 s).bind fun y => .leaf (outS (impl_Whole_over_l4_E v1080 v1081 v1082 v1083 v1084) (impl_Whole_over_l4_X v1080 v1081 v1082 v1083 v1084) y) := by kernel_rfl
theorem impl_Whole_over_l4_ok (v1080 : Int) (v1081 : Int) (v1082 : List Int) (v1083 : Int) (v1084 : List Int) : LSound Try.prog 0 (impl_Whole_over_LO v1080 v1081 v1082 v1083 v1084) 4 (bodyOf Try.f64 4) := by
  intro e L out h
  exact lo_ok (E := impl_Whole_over_l4_E v1080 v1081 v1082 v1083 v1084) (gT := impl_Whole_over_l4_T v1080 v1081 v1082 v1083 v1084) (X := impl_Whole_over_l4_X v1080 v1081 v1082 v1083 v1084) (s0 := ((gI (vAt e 11)), (gI (vAt e 66)), (gPI L (vAt e 9) 0), (gX L (vAt e 9) 0), (gRI L (vAt e 10)))) tok impl_Whole_over_hO mixed (LoopsOk_eq (l := [(6, bodyOf Try.f64 6), (8, bodyOf Try.f64 8), (10, bodyOf Try.f64 10)]) (by kernel_rfl) ⟨impl_Whole_over_l6_ok v1080 v1081 v1082 v1083 v1084, impl_Whole_over_l8_ok v1080 v1081 v1082 v1083 v1084, impl_Whole_over_l10_ok v1080 v1081 v1082 v1083 v1084, trivial⟩) (impl_Whole_over_l4_be v1080 v1081 v1082 v1083 v1084) rfl (by intro x; rfl) h
noncomputable def impl_Whole_over_T (v1080 : Int) (v1081 : Int) (v1082 : List Int) (v1083 : Int) (v1084 : List Int) : Tree (Int × (List (List Int)) × (List Nat) × (List Int)) :=
  (.need (some (impl_Whole_over_l0_E v1080 v1081 v1082 v1083 v1084 ((0 : Int), ([] : List (List Int)), ([] : List Nat))) = some (impl_Whole_over_l0_E v1080 v1081 v1082 v1083 v1084 ((0 : Int), ([] : List (List Int)), ([] : List Nat)))) <|
  (.call (impl_Whole_over_l0_g v1080 v1081 v1082 v1083 v1084 ((0 : Int), ([] : List (List Int)), ([] : List Nat))) fun v1163 =>
  (.need (some (impl_Whole_over_l4_E v1080 v1081 v1082 v1083 v1084 ((1 : Int), (0 : Int), v1163.1, v1163.2, ([] : List Int))) = some (impl_Whole_over_l4_E v1080 v1081 v1082 v1083 v1084 ((1 : Int), (0 : Int), v1163.1, v1163.2, ([] : List Int)))) <|
  (.call (impl_Whole_over_l4_g v1080 v1081 v1082 v1083 v1084 ((1 : Int), (0 : Int), v1163.1, v1163.2, ([] : List Int))) fun v2235 =>
  .leaf (v2235.1, v2235.2.1, v2235.2.2.1, v2235.2.2.2)))))

noncomputable def impl_Whole_over_g (v1080 : Int) (v1081 : Int) (v1082 : List Int) (v1083 : Int) (v1084 : List Int) : Option (Int × (List (List Int)) × (List Nat) × (List Int)) := (impl_Whole_over_T v1080 v1081 v1082 v1083 v1084).run
def impl_Whole_over_enc (v1080 : Int) (v1081 : Int) (v1082 : List Int) (v1083 : Int) (v1084 : List Int) (y : Int × (List (List Int)) × (List Nat) × (List Int)) : Rs := (.tup [.nest 0 0 1 ((y.2.2.1).length), .own 1 0 ((y.2.2.2).length), .int .i64 y.1], [.nest [.sl (.i64 y.2.1) y.2.2.1] false 0, .row (.i64 y.2.2.2) 0])
theorem impl_Whole_over_den (v1080 : Int) (v1081 : Int) (v1082 : List Int) (v1083 : Int) (v1084 : List Int) : (den TT (tabD impl_Whole_over_tab) (tabM impl_Whole_over_tab) (impl_Whole_over_LO v1080 v1081 v1082 v1083 v1084) (codeOf Try.f64) ([.agg [.int .i64 v1080, .int .i64 v1081, .bslc (BR.root 0) (.i64 v1082)], .int .i64 v1083, .bslc (BR.root 1) (.i64 v1084)] ++ List.replicate (Try.f64.ntmps - ([.agg [.int .i64 v1080, .int .i64 v1081, .bslc (BR.root 0) (.i64 v1082)], .int .i64 v1083, .bslc (BR.root 1) (.i64 v1084)] : List DV).length) .undef) []).bind (retD TT Try.f64.results.toList 0) = (impl_Whole_over_T v1080 v1081 v1082 v1083 v1084).bind fun y => .leaf (impl_Whole_over_enc v1080 v1081 v1082 v1083 v1084 y) := by kernel_rfl
theorem impl_Whole_over_fn (v1080 : Int) (v1081 : Int) (v1082 : List Int) (v1083 : Int) (v1084 : List Int) (F : Fr) (h0 : St F [] F.H0) (hA : DVs.Ok F [] [.agg [.int .i64 v1080, .int .i64 v1081, .bslc (BR.root 0) (.i64 v1082)], .int .i64 v1083, .bslc (BR.root 1) (.i64 v1084)]) {y : Int × (List (List Int)) × (List Nat) × (List Int)} (hy : impl_Whole_over_g v1080 v1081 v1082 v1083 v1084 = some y) : ∃ F' H', Fwd 0 F F' [] (impl_Whole_over_enc v1080 v1081 v1082 v1083 v1084 y).2 ∧ FnOk Try.prog 64 (DVs.av F [.agg [.int .i64 v1080, .int .i64 v1081, .bslc (BR.root 0) (.i64 v1082)], .int .i64 v1083, .bslc (BR.root 1) (.i64 v1084)]) F.H0 ((impl_Whole_over_enc v1080 v1081 v1082 v1083 v1084 y).1.av F') H' ∧ St F' (impl_Whole_over_enc v1080 v1081 v1082 v1083 v1084 y).2 H' ∧ (impl_Whole_over_enc v1080 v1081 v1082 v1083 v1084 y).1.Ok F' (impl_Whole_over_enc v1080 v1081 v1082 v1083 v1084 y).2 :=
  fn_fin tok impl_Whole_over_hO mixed Try.func64 Try.call64 (by kernel_rfl) (LoopsOk_eq (l := [(0, bodyOf Try.f64 0), (4, bodyOf Try.f64 4)]) (by kernel_rfl) ⟨impl_Whole_over_l0_ok v1080 v1081 v1082 v1083 v1084, impl_Whole_over_l4_ok v1080 v1081 v1082 v1083 v1084, trivial⟩) (impl_Whole_over_den v1080 v1081 v1082 v1083 v1084) hy h0 hA
noncomputable def impl_Whole_over_F : DFn := fun args L =>
  match args with
  | [.agg [.int .i64 v1080, .int .i64 v1081, a1], .int .i64 v1083, a2] =>
    optT (rowI64 L a1) fun v1082 =>
    optT (rowI64 L a2) fun v1084 =>
    .call (impl_Whole_over_g v1080 v1081 v1082 v1083 v1084) fun y => .leaf (.tup [.nest (L.length + 0) 0 1 ((y.2.2.1).length), .own (L.length + 1) 0 ((y.2.2.2).length), .int .i64 y.1], L ++ [.nest [.sl (.i64 y.2.1) y.2.2.1] false 0, .row (.i64 y.2.2.2) 0])
  | _ => .fail
theorem impl_Whole_over_Fok : COk Try.prog 64 impl_Whole_over_F true := by
  intro F L H args r L' hs ha hr
  unfold impl_Whole_over_F at hr
  split at hr
  · rename_i v1080 v1081 a1 v1083 a2
    obtain ⟨v1082, hv1082, hr⟩ := optT_run hr
    obtain ⟨v1084, hv1084, hr⟩ := optT_run hr
    simp only [Tree.run] at hr
    obtain ⟨y, hy, hr⟩ := Option.bind_eq_some_iff.1 hr
    simp only [Tree.run, Option.some.injEq, Prod.mk.injEq] at hr
    obtain ⟨rfl, rfl⟩ := hr
    exact call_ok1 hs (fun k => (([a1.av F, a2.av F] : List AV)[k]?).getD .top) [.agg [.int .i64 v1080, .int .i64 v1081, a1], .int .i64 v1083, a2] [.agg [.int .i64 v1080, .int .i64 v1081, .bslc (BR.root 0) (.i64 v1082)], .int .i64 v1083, .bslc (BR.root 1) (.i64 v1084)] (fun F' h0 hi hρ => ⟨by simp [DVs.av, DV.av, BR.av, hρ], impl_Whole_over_fn v1080 v1081 v1082 v1083 v1084 F' (st_nil hi) ⟨⟨trivial, trivial, bslc_ok hi (by rw [h0, hρ]; exact rowI64_ok hs (DVs.okAt (DVs.okAt ha 0 rfl) 2 rfl) hv1082), trivial⟩, trivial, bslc_ok hi (by rw [h0, hρ]; exact rowI64_ok hs (DVs.okAt ha 2 rfl) hv1084), trivial⟩ hy⟩) rfl rfl
  · cases hr
/-! impl.SolveOver -/
noncomputable def impl_SolveOver_l0_T (v1033 : Int) (v2248 : Int) (v2250 : List Int) (v2252 : List (List Int)) (v2253 : List Nat) (s : Int × (List Int)) : Tree ((Int × (List Int)) ⊕ ((Unit) ⊕ ((List Int)))) :=
  (.br (decide (s.1 < v2248)) (
   (.grd (inb s.1 ((v2253).length)) <|
   (.grd (inb v1033 ((nget v2252 (nth v2253 (Int.toNat s.1))).length)) <|
   (.br (decide (s.1 < (((v2250).length : Nat) : Int))) (
    (.grd (inb s.1 ((v2250).length)) <|
    (.grd (inb (nth v2250 (Int.toNat s.1)) ((s.2).length)) <|
    .leaf (.inl (IntKind.i64.wrap (s.1 + (1 : Int)), List.set s.2 (Int.toNat (nth v2250 (Int.toNat s.1))) (nth (nget v2252 (nth v2253 (Int.toNat s.1))) (Int.toNat v1033))))))
   ) (
    (.br (!decide (nth (nget v2252 (nth v2253 (Int.toNat s.1))) (Int.toNat v1033) = (0 : Int))) (
     .leaf (.inr (.inl ()))
    ) (
     .leaf (.inl (IntKind.i64.wrap (s.1 + (1 : Int)), s.2))
    ))
   ))))
  ) (
   .leaf (.inr (.inr s.2))
  ))

noncomputable def impl_SolveOver_l0_g (v1033 : Int) (v2248 : Int) (v2250 : List Int) (v2252 : List (List Int)) (v2253 : List Nat) (s0 : Int × (List Int)) : Option ((Unit) ⊕ ((List Int))) := whileM (fun s => (impl_SolveOver_l0_T v1033 v2248 v2250 v2252 v2253 s).run) s0
def impl_SolveOver_l0_E (v1032 : Int) (v1033 : Int) (v1034 : List Int) (v1035 : List Int) (v1036 : Int) (v2248 : Int) (v2250 : List Int) (v2252 : List (List Int)) (v2253 : List Nat) (s : Int × (List Int)) : Sd := ([.top, .top, .top, .ptr 0 (0 : Nat) 0 (3 : Nat), .top, .top, .top, .top, .top, .own 1 0 ((v2250).length), .top, .own 2 0 ((s.2).length), .top, .top, .top, .top, .top, .top, .top, .top, .top, .top, .top, .top, .top, .top, .top, .top, .top, .top, .top, .top, .top, .top, .top, .top, .top, .top, .top, .top, .top, .top, .top, .top, .top, .top, .nest 3 0 1 ((v2253).length), .int .i64 v2248, .int .i64 s.1, .top, .top, .top, .top, .top, .top, .top, .top, .top, .top, .top, .top, .top, .top, .top, .top, .top, .top, .top, .top, .top, .top, .top, .top, .top, .top], [.gen [.int .i64 v1032, .int .i64 v1033, .bslc (BR.root 0) (.i64 v1034)] false 0, .row (.i64 v2250) 0, .row (.i64 s.2) 0, .nest [.sl (.i64 v2252) v2253] false 0])
def impl_SolveOver_l0_X (v1032 : Int) (v1033 : Int) (v1034 : List Int) (v1035 : List Int) (v1036 : Int) (v2248 : Int) (v2250 : List Int) (v2252 : List (List Int)) (v2253 : List Nat) (x : (Unit) ⊕ ((List Int))) : Out := (match x with | .inl x => (.ret, [.top, .top, .top, .top, .top, .top, .nilslc, .lit false, .top, .top, .top, .top, .top, .top, .top, .top, .top, .top, .top, .top, .top, .top, .top, .top, .top, .top, .top, .top, .top, .top, .top, .top, .top, .top, .top, .top, .top, .top, .top, .top, .top, .top, .top, .top, .top, .top, .top, .top, .top, .top, .top, .top, .top, .top, .top, .top, .top, .top, .top, .top, .top, .top, .top, .top, .top, .top, .top, .top, .top, .top, .top, .top, .top, .top, .top], []) | .inr x => (.normal, [.top, .top, .top, .top, .top, .top, .top, .top, .top, .top, .top, .own 0 0 ((x).length), .top, .top, .top, .top, .top, .top, .top, .top, .top, .top, .top, .top, .top, .top, .top, .top, .top, .top, .top, .top, .top, .top, .top, .top, .top, .top, .top, .top, .top, .top, .top, .top, .top, .top, .top, .top, .top, .top, .top, .top, .top, .top, .top, .top, .top, .top, .top, .top, .top, .top, .top, .top, .top, .top, .top, .top, .top, .top, .top, .top, .top, .top, .top], [.row (.i64 x) 0]))
def impl_SolveOver_l0_kill : List Nat := [1, 1, 1, 0, 1, 1, 1, 1, 1, 0, 1, 0, 1, 1, 1, 1, 1, 1, 1, 1, 1, 1, 1, 1, 1, 1, 1, 1, 1, 1, 1, 1, 1, 1, 1, 1, 1, 1, 1, 1, 1, 1, 1, 1, 1, 1, 0, 0, 0, 1, 1, 1, 1, 1, 1, 1, 1, 1, 1, 1, 1, 1, 1, 1, 1, 1, 1, 1, 1, 1, 1, 1, 1, 1, 1]
def impl_SolveOver_l0_nx : Exit → List Nat
  | .exit 0 => [1, 1, 1, 1, 1, 1, 1, 1, 1, 1, 1, 0, 1, 1, 1, 1, 1, 1, 1, 1, 1, 1, 1, 1, 1, 1, 1, 1, 1, 1, 1, 1, 1, 1, 1, 1, 1, 1, 1, 1, 1, 1, 1, 1, 1, 1, 1, 1, 1, 1, 1, 1, 1, 1, 1, 1, 1, 1, 1, 1, 1, 1, 1, 1, 1, 1, 1, 1, 1, 1, 1, 1, 1, 1, 1]
  | .ret => [1, 1, 1, 1, 1, 1, 0, 0, 1, 1, 1, 1, 1, 1, 1, 1, 1, 1, 1, 1, 1, 1, 1, 1, 1, 1, 1, 1, 1, 1, 1, 1, 1, 1, 1, 1, 1, 1, 1, 1, 1, 1, 1, 1, 1, 1, 1, 1, 1, 1, 1, 1, 1, 1, 1, 1, 1, 1, 1, 1, 1, 1, 1, 1, 1, 1, 1, 1, 1, 1, 1, 1, 1, 1, 1]
  | _ => []
noncomputable def impl_SolveOver_LO (v1032 : Int) (v1033 : Int) (v1034 : List Int) (v1035 : List Int) (v1036 : Int) : LOr := fun id e L =>
  match id with
  | 0 => .need (normA 0 impl_SolveOver_l0_kill e L = some (impl_SolveOver_l0_E v1032 v1033 v1034 v1035 v1036 (gI (vAt e 47)) (gRI L (vAt e 9)) (gPI L (vAt e 46) 0) (gX L (vAt e 46) 0) ((gI (vAt e 48)), (gRI L (vAt e 11))))) (.call (impl_SolveOver_l0_g v1033 (gI (vAt e 47)) (gRI L (vAt e 9)) (gPI L (vAt e 46) 0) (gX L (vAt e 46) 0) ((gI (vAt e 48)), (gRI L (vAt e 11)))) fun x => .sum x (fun b0 => .leaf (impl_SolveOver_l0_X v1032 v1033 v1034 v1035 v1036 (gI (vAt e 47)) (gRI L (vAt e 9)) (gPI L (vAt e 46) 0) (gX L (vAt e 46) 0) (.inl b0))) (fun c0 => .leaf (impl_SolveOver_l0_X v1032 v1033 v1034 v1035 v1036 (gI (vAt e 47)) (gRI L (vAt e 9)) (gPI L (vAt e 46) 0) (gX L (vAt e 46) 0) (.inr c0))))
  | _ => .fail
noncomputable def impl_SolveOver_tab : List (FuncId × DFn × Bool) := [(63, impl_ValidWhole_F, true), (58, impl_IsPrime_F, true), (65, impl_lengthI_F, true), (67, impl_allIn_F, true), (64, impl_Whole_over_F, true)]
theorem impl_SolveOver_hO : OrcOk Try.prog (tabD impl_SolveOver_tab) (tabM impl_SolveOver_tab) := tabD_cons impl_ValidWhole_Fok (tabD_cons impl_IsPrime_Fok (tabD_cons impl_lengthI_Fok (tabD_cons impl_allIn_Fok (tabD_cons impl_Whole_over_Fok (tabD_nil _)))))
theorem impl_SolveOver_l0_be (v1032 : Int) (v1033 : Int) (v1034 : List Int) (v1035 : List Int) (v1036 : Int) (v2248 : Int) (v2250 : List Int) (v2252 : List (List Int)) (v2253 : List Nat) (s : Int × (List Int)) : bodyT TT (tabD impl_SolveOver_tab) (tabM impl_SolveOver_tab) (impl_SolveOver_LO v1032 v1033 v1034 v1035 v1036) 0 impl_SolveOver_l0_kill impl_SolveOver_l0_nx (bodyOf Try.f21 0) 0 (impl_SolveOver_l0_E v1032 v1033 v1034 v1035 v1036 v2248 v2250 v2252 v2253 s) = (impl_SolveOver_l0_T v1033 v2248 v2250 v2252 v2253 s).bind fun y => .leaf (outS (impl_SolveOver_l0_E v1032 v1033 v1034 v1035 v1036 v2248 v2250 v2252 v2253) (impl_SolveOver_l0_X v1032 v1033 v1034 v1035 v1036 v2248 v2250 v2252 v2253) y) := by kernel_rfl
theorem impl_SolveOver_l0_ok (v1032 : Int) (v1033 : Int) (v1034 : List Int) (v1035 : List Int) (v1036 : Int) : LSound Try.prog 0 (impl_SolveOver_LO v1032 v1033 v1034 v1035 v1036) 0 (bodyOf Try.f21 0) := by
  intro e L out h
  exact lo_ok (E := impl_SolveOver_l0_E v1032 v1033 v1034 v1035 v1036 (gI (vAt e 47)) (gRI L (vAt e 9)) (gPI L (vAt e 46) 0) (gX L (vAt e 46) 0)) (gT := impl_SolveOver_l0_T v1033 (gI (vAt e 47)) (gRI L (vAt e 9)) (gPI L (vAt e 46) 0) (gX L (vAt e 46) 0)) (X := impl_SolveOver_l0_X v1032 v1033 v1034 v1035 v1036 (gI (vAt e 47)) (gRI L (vAt e 9)) (gPI L (vAt e 46) 0) (gX L (vAt e 46) 0)) (s0 := ((gI (vAt e 48)), (gRI L (vAt e 11)))) tok impl_SolveOver_hO mixed (LoopsOk_eq (l := []) (by kernel_rfl) trivial) (impl_SolveOver_l0_be v1032 v1033 v1034 v1035 v1036 (gI (vAt e 47)) (gRI L (vAt e 9)) (gPI L (vAt e 46) 0) (gX L (vAt e 46) 0)) rfl (by intro x; (cases x with | inl b => rfl | inr x => exact rfl)) h
noncomputable def impl_SolveOver_T (v1032 : Int) (v1033 : Int) (v1034 : List Int) (v1035 : List Int) (v1036 : Int) : Tree ((Unit) ⊕ ((List Int))) :=
  (.call (impl_ValidWhole_g v1032 v1033 v1034) fun v1070 =>
  (.br (!v1070) (
   .leaf (.inl ())
  ) (
   (.call (impl_IsPrime_g v1036) fun v1078 =>
   (.br (!v1078) (
    .leaf (.inl ())
   ) (
    (.br (!decide ((impl_lengthI_v v1035) = v1032)) (
     .leaf (.inl ())
    ) (
     (.call (impl_allIn_g v1035 (-1000000 : Int) (1000000 : Int)) fun v1079 =>
     (.br (!v1079) (
      .leaf (.inl ())
     ) (
      (.call (impl_Whole_over_g v1032 v1033 v1034 v1036 v1035) fun v2236 =>
      (.need (v1033 = v1033) <|
      (.grd (inb v1033 (maxN + 1)) <|
      (.need (some (impl_SolveOver_l0_E v1032 v1033 v1034 v1035 v1036 (((v2236.2.2.1).length : Nat) : Int) v2236.2.2.2 v2236.2.1 v2236.2.2.1 ((0 : Int), List.replicate (Int.toNat v1033) (0 : Int))) = some (impl_SolveOver_l0_E v1032 v1033 v1034 v1035 v1036 (((v2236.2.2.1).length : Nat) : Int) v2236.2.2.2 v2236.2.1 v2236.2.2.1 ((0 : Int), List.replicate (Int.toNat v1033) (0 : Int)))) <|
      (.call (impl_SolveOver_l0_g v1033 (((v2236.2.2.1).length : Nat) : Int) v2236.2.2.2 v2236.2.1 v2236.2.2.1 ((0 : Int), List.replicate (Int.toNat v1033) (0 : Int))) fun v2254 =>
      (.sum v2254 (fun v2255 =>
       .leaf (.inl ())
      ) (fun v2256 =>
       .leaf (.inr v2256)
      )))))))
     )))
    ))
   )))
  )))

noncomputable def impl_SolveOver_g (v1032 : Int) (v1033 : Int) (v1034 : List Int) (v1035 : List Int) (v1036 : Int) : Option ((Unit) ⊕ ((List Int))) := (impl_SolveOver_T v1032 v1033 v1034 v1035 v1036).run
def impl_SolveOver_enc (v1032 : Int) (v1033 : Int) (v1034 : List Int) (v1035 : List Int) (v1036 : Int) (y : (Unit) ⊕ ((List Int))) : Rs := (match y with | .inl y => (.tup [.nilslc, .lit false], []) | .inr y => (.tup [.own 0 0 ((y).length), .lit true], [.row (.i64 y) 0]))
theorem impl_SolveOver_den (v1032 : Int) (v1033 : Int) (v1034 : List Int) (v1035 : List Int) (v1036 : Int) : (den TT (tabD impl_SolveOver_tab) (tabM impl_SolveOver_tab) (impl_SolveOver_LO v1032 v1033 v1034 v1035 v1036) (codeOf Try.f21) ([.agg [.int .i64 v1032, .int .i64 v1033, .bslc (BR.root 0) (.i64 v1034)], .bslc (BR.root 1) (.i64 v1035), .int .i64 v1036] ++ List.replicate (Try.f21.ntmps - ([.agg [.int .i64 v1032, .int .i64 v1033, .bslc (BR.root 0) (.i64 v1034)], .bslc (BR.root 1) (.i64 v1035), .int .i64 v1036] : List DV).length) .undef) []).bind (retD TT Try.f21.results.toList 0) = (impl_SolveOver_T v1032 v1033 v1034 v1035 v1036).bind fun y => .leaf (impl_SolveOver_enc v1032 v1033 v1034 v1035 v1036 y) := by kernel_rfl
theorem impl_SolveOver_fn (v1032 : Int) (v1033 : Int) (v1034 : List Int) (v1035 : List Int) (v1036 : Int) (F : Fr) (h0 : St F [] F.H0) (hA : DVs.Ok F [] [.agg [.int .i64 v1032, .int .i64 v1033, .bslc (BR.root 0) (.i64 v1034)], .bslc (BR.root 1) (.i64 v1035), .int .i64 v1036]) {y : (Unit) ⊕ ((List Int))} (hy : impl_SolveOver_g v1032 v1033 v1034 v1035 v1036 = some y) : ∃ F' H', Fwd 0 F F' [] (impl_SolveOver_enc v1032 v1033 v1034 v1035 v1036 y).2 ∧ FnOk Try.prog 21 (DVs.av F [.agg [.int .i64 v1032, .int .i64 v1033, .bslc (BR.root 0) (.i64 v1034)], .bslc (BR.root 1) (.i64 v1035), .int .i64 v1036]) F.H0 ((impl_SolveOver_enc v1032 v1033 v1034 v1035 v1036 y).1.av F') H' ∧ St F' (impl_SolveOver_enc v1032 v1033 v1034 v1035 v1036 y).2 H' ∧ (impl_SolveOver_enc v1032 v1033 v1034 v1035 v1036 y).1.Ok F' (impl_SolveOver_enc v1032 v1033 v1034 v1035 v1036 y).2 :=
  fn_fin tok impl_SolveOver_hO mixed Try.func21 Try.call21 (by kernel_rfl) (LoopsOk_eq (l := [(0, bodyOf Try.f21 0)]) (by kernel_rfl) ⟨impl_SolveOver_l0_ok v1032 v1033 v1034 v1035 v1036, trivial⟩) (impl_SolveOver_den v1032 v1033 v1034 v1035 v1036) hy h0 hA
noncomputable def impl_SolveOver_F : DFn := fun args L =>
  match args with
  | [.agg [.int .i64 v1032, .int .i64 v1033, a1], a2, .int .i64 v1036] =>
    optT (rowI64 L a1) fun v1034 =>
    optT (rowI64 L a2) fun v1035 =>
    .call (impl_SolveOver_g v1032 v1033 v1034 v1035 v1036) fun y => .sum y (fun y0 => .leaf (.tup [.nilslc, .lit false], L)) (fun z0 => .leaf (.tup [.own (L.length + 0) 0 ((z0).length), .lit true], L ++ [.row (.i64 z0) 0]))
  | _ => .fail
theorem impl_SolveOver_Fok : COk Try.prog 21 impl_SolveOver_F true := by
  intro F L H args r L' hs ha hr
  unfold impl_SolveOver_F at hr
  split at hr
  · rename_i v1032 v1033 a1 a2 v1036
    obtain ⟨v1034, hv1034, hr⟩ := optT_run hr
    obtain ⟨v1035, hv1035, hr⟩ := optT_run hr
    simp only [Tree.run] at hr
    obtain ⟨y, hy, hr⟩ := Option.bind_eq_some_iff.1 hr
    cases y with
    | inl y =>
      simp only [Tree.run, Option.some.injEq, Prod.mk.injEq] at hr
      obtain ⟨rfl, rfl⟩ := hr
      exact call_ok0 hs (fun k => (([a1.av F, a2.av F] : List AV)[k]?).getD .top) [.agg [.int .i64 v1032, .int .i64 v1033, a1], a2, .int .i64 v1036] [.agg [.int .i64 v1032, .int .i64 v1033, .bslc (BR.root 0) (.i64 v1034)], .bslc (BR.root 1) (.i64 v1035), .int .i64 v1036] (fun F' h0 hi hρ => ⟨by simp [DVs.av, DV.av, BR.av, hρ], impl_SolveOver_fn v1032 v1033 v1034 v1035 v1036 F' (st_nil hi) ⟨⟨trivial, trivial, bslc_ok hi (by rw [h0, hρ]; exact rowI64_ok hs (DVs.okAt (DVs.okAt ha 0 rfl) 2 rfl) hv1034), trivial⟩, bslc_ok hi (by rw [h0, hρ]; exact rowI64_ok hs (DVs.okAt ha 1 rfl) hv1035), trivial, trivial⟩ hy⟩) rfl
    | inr y =>
      simp only [Tree.run, Option.some.injEq, Prod.mk.injEq] at hr
      obtain ⟨rfl, rfl⟩ := hr
      exact call_ok1 hs (fun k => (([a1.av F, a2.av F] : List AV)[k]?).getD .top) [.agg [.int .i64 v1032, .int .i64 v1033, a1], a2, .int .i64 v1036] [.agg [.int .i64 v1032, .int .i64 v1033, .bslc (BR.root 0) (.i64 v1034)], .bslc (BR.root 1) (.i64 v1035), .int .i64 v1036] (fun F' h0 hi hρ => ⟨by simp [DVs.av, DV.av, BR.av, hρ], impl_SolveOver_fn v1032 v1033 v1034 v1035 v1036 F' (st_nil hi) ⟨⟨trivial, trivial, bslc_ok hi (by rw [h0, hρ]; exact rowI64_ok hs (DVs.okAt (DVs.okAt ha 0 rfl) 2 rfl) hv1034), trivial⟩, bslc_ok hi (by rw [h0, hρ]; exact rowI64_ok hs (DVs.okAt ha 1 rfl) hv1035), trivial, trivial⟩ hy⟩) rfl rfl
  · cases hr
/-! laws.eqInt64S -/
noncomputable def laws_eqInt64S_l0_T (v2260 : List Int) (v2261 : List Int) (s : Int) : Tree ((Int) ⊕ ((Unit) ⊕ (Unit))) :=
  (.br (decide (s < ((v2260.length : Nat) : Int))) (
   (.grd (inb s v2260.length) <|
   (.grd (inb s v2261.length) <|
   (.br (!decide (nth v2260 (Int.toNat s) = nth v2261 (Int.toNat s))) (
    .leaf (.inr (.inl ()))
   ) (
    .leaf (.inl (IntKind.i64.wrap (s + (1 : Int))))
   ))))
  ) (
   .leaf (.inr (.inr ()))
  ))

noncomputable def laws_eqInt64S_l0_g (v2260 : List Int) (v2261 : List Int) (s0 : Int) : Option ((Unit) ⊕ (Unit)) := whileM (fun s => (laws_eqInt64S_l0_T v2260 v2261 s).run) s0
def laws_eqInt64S_l0_E (v2260 : List Int) (v2261 : List Int) (s : Int) : Sd := ([.bslc (BR.root 0) (.i64 v2260), .bslc (BR.root 1) (.i64 v2261), .top, .top, .top, .int .i64 s, .top, .top, .top, .top, .top, .top, .top, .top, .top, .top, .top, .top, .top, .top, .top, .top, .top, .top, .top, .top], [])
def laws_eqInt64S_l0_X (v2260 : List Int) (v2261 : List Int) (x : (Unit) ⊕ (Unit)) : Out := (match x with | .inl x => (.ret, [.top, .top, .top, .top, .lit false, .top, .top, .top, .top, .top, .top, .top, .top, .top, .top, .top, .top, .top, .top, .top, .top, .top, .top, .top, .top, .top], []) | .inr x => (.normal, [.top, .top, .top, .top, .top, .top, .top, .top, .top, .top, .top, .top, .top, .top, .top, .top, .top, .top, .top, .top, .top, .top, .top, .top, .top, .top], []))
def laws_eqInt64S_l0_kill : List Nat := [0, 0, 1, 1, 1, 0, 1, 1, 1, 1, 1, 1, 1, 1, 1, 1, 1, 1, 1, 1, 1, 1, 1, 1, 1, 1]
def laws_eqInt64S_l0_nx : Exit → List Nat
  | .exit 0 => [1, 1, 1, 1, 1, 1, 1, 1, 1, 1, 1, 1, 1, 1, 1, 1, 1, 1, 1, 1, 1, 1, 1, 1, 1, 1]
  | .ret => [1, 1, 1, 1, 0, 1, 1, 1, 1, 1, 1, 1, 1, 1, 1, 1, 1, 1, 1, 1, 1, 1, 1, 1, 1, 1]
  | _ => []
noncomputable def laws_eqInt64S_LO (v2260 : List Int) (v2261 : List Int) : LOr := fun id e L =>
  match id with
  | 0 => .need (normA 0 laws_eqInt64S_l0_kill e L = some (laws_eqInt64S_l0_E v2260 v2261 (gI (vAt e 5)))) (.call (laws_eqInt64S_l0_g v2260 v2261 (gI (vAt e 5))) fun x => .sum x (fun b0 => .leaf (laws_eqInt64S_l0_X v2260 v2261 (.inl b0))) (fun c0 => .leaf (laws_eqInt64S_l0_X v2260 v2261 (.inr c0))))
  | _ => .fail
noncomputable def laws_eqInt64S_tab : List (FuncId × DFn × Bool) := []
theorem laws_eqInt64S_hO : OrcOk Try.prog (tabD laws_eqInt64S_tab) (tabM laws_eqInt64S_tab) := tabD_nil _
theorem laws_eqInt64S_l0_be (v2260 : List Int) (v2261 : List Int) (s : Int) : bodyT TT (tabD laws_eqInt64S_tab) (tabM laws_eqInt64S_tab) (laws_eqInt64S_LO v2260 v2261) 0 laws_eqInt64S_l0_kill laws_eqInt64S_l0_nx (bodyOf Try.f22 0) 0 (laws_eqInt64S_l0_E v2260 v2261 s) = (laws_eqInt64S_l0_T v2260 v2261 s).bind fun y => .leaf (outS (laws_eqInt64S_l0_E v2260 v2261) (laws_eqInt64S_l0_X v2260 v2261) y) := by kernel_rfl
theorem laws_eqInt64S_l0_ok (v2260 : List Int) (v2261 : List Int) : LSound Try.prog 0 (laws_eqInt64S_LO v2260 v2261) 0 (bodyOf Try.f22 0) := by
  intro e L out h
  exact lo_ok (E := laws_eqInt64S_l0_E v2260 v2261) (gT := laws_eqInt64S_l0_T v2260 v2261) (X := laws_eqInt64S_l0_X v2260 v2261) (s0 := (gI (vAt e 5))) tok laws_eqInt64S_hO mixed (LoopsOk_eq (l := []) (by kernel_rfl) trivial) (laws_eqInt64S_l0_be v2260 v2261) rfl (by intro x; (cases x with | inl b => rfl | inr x => exact rfl)) h
noncomputable def laws_eqInt64S_T (v2260 : List Int) (v2261 : List Int) : Tree (Bool) :=
  (.br (!decide (((v2260.length : Nat) : Int) = ((v2261.length : Nat) : Int))) (
   .leaf false
  ) (
   (.need (some (laws_eqInt64S_l0_E v2260 v2261 (0 : Int)) = some (laws_eqInt64S_l0_E v2260 v2261 (0 : Int))) <|
   (.call (laws_eqInt64S_l0_g v2260 v2261 (0 : Int)) fun v2265 =>
   (.sum v2265 (fun v2266 =>
    .leaf false
   ) (fun v2267 =>
    .leaf true
   ))))
  ))

noncomputable def laws_eqInt64S_g (v2260 : List Int) (v2261 : List Int) : Option (Bool) := (laws_eqInt64S_T v2260 v2261).run
def laws_eqInt64S_enc (v2260 : List Int) (v2261 : List Int) (y : Bool) : Rs := (.bool y, [])
theorem laws_eqInt64S_den (v2260 : List Int) (v2261 : List Int) : (den TT (tabD laws_eqInt64S_tab) (tabM laws_eqInt64S_tab) (laws_eqInt64S_LO v2260 v2261) (codeOf Try.f22) ([.bslc (BR.root 0) (.i64 v2260), .bslc (BR.root 1) (.i64 v2261)] ++ List.replicate (Try.f22.ntmps - ([.bslc (BR.root 0) (.i64 v2260), .bslc (BR.root 1) (.i64 v2261)] : List DV).length) .undef) []).bind (retD TT Try.f22.results.toList 0) = (laws_eqInt64S_T v2260 v2261).bind fun y => .leaf (laws_eqInt64S_enc v2260 v2261 y) := by kernel_rfl
theorem laws_eqInt64S_fn (v2260 : List Int) (v2261 : List Int) (F : Fr) (h0 : St F [] F.H0) (hA : DVs.Ok F [] [.bslc (BR.root 0) (.i64 v2260), .bslc (BR.root 1) (.i64 v2261)]) {y : Bool} (hy : laws_eqInt64S_g v2260 v2261 = some y) : ∃ F' H', Fwd 0 F F' [] (laws_eqInt64S_enc v2260 v2261 y).2 ∧ FnOk Try.prog 22 (DVs.av F [.bslc (BR.root 0) (.i64 v2260), .bslc (BR.root 1) (.i64 v2261)]) F.H0 ((laws_eqInt64S_enc v2260 v2261 y).1.av F') H' ∧ St F' (laws_eqInt64S_enc v2260 v2261 y).2 H' ∧ (laws_eqInt64S_enc v2260 v2261 y).1.Ok F' (laws_eqInt64S_enc v2260 v2261 y).2 :=
  fn_fin tok laws_eqInt64S_hO mixed Try.func22 Try.call22 (by kernel_rfl) (LoopsOk_eq (l := [(0, bodyOf Try.f22 0)]) (by kernel_rfl) ⟨laws_eqInt64S_l0_ok v2260 v2261, trivial⟩) (laws_eqInt64S_den v2260 v2261) hy h0 hA
noncomputable def laws_eqInt64S_F : DFn := fun args L =>
  match args with
  | [a1, a2] =>
    optT (rowI64 L a1) fun v2260 =>
    optT (rowI64 L a2) fun v2261 =>
    .call (laws_eqInt64S_g v2260 v2261) fun y => .leaf (.bool y, L)
  | _ => .fail
theorem laws_eqInt64S_Fok : COk Try.prog 22 laws_eqInt64S_F true := by
  intro F L H args r L' hs ha hr
  unfold laws_eqInt64S_F at hr
  split at hr
  · rename_i a1 a2
    obtain ⟨v2260, hv2260, hr⟩ := optT_run hr
    obtain ⟨v2261, hv2261, hr⟩ := optT_run hr
    simp only [Tree.run] at hr
    obtain ⟨y, hy, hr⟩ := Option.bind_eq_some_iff.1 hr
    simp only [Tree.run, Option.some.injEq, Prod.mk.injEq] at hr
    obtain ⟨rfl, rfl⟩ := hr
    exact call_ok0 hs (fun k => (([a1.av F, a2.av F] : List AV)[k]?).getD .top) [a1, a2] [.bslc (BR.root 0) (.i64 v2260), .bslc (BR.root 1) (.i64 v2261)] (fun F' h0 hi hρ => ⟨by simp [DVs.av, DV.av, BR.av, hρ], laws_eqInt64S_fn v2260 v2261 F' (st_nil hi) ⟨bslc_ok hi (by rw [h0, hρ]; exact rowI64_ok hs (DVs.okAt ha 0 rfl) hv2260), bslc_ok hi (by rw [h0, hρ]; exact rowI64_ok hs (DVs.okAt ha 1 rfl) hv2261), trivial⟩ hy⟩) rfl
  · cases hr
/-! laws.eqWhole -/
noncomputable def laws_eqWhole_LO (v2270 : Int) (v2271 : Int) (v2272 : List Int) (v2273 : Int) (v2274 : Int) (v2275 : List Int) : LOr := fun id e L =>
  match id with
  | _ => .fail
noncomputable def laws_eqWhole_tab : List (FuncId × DFn × Bool) := [(22, laws_eqInt64S_F, true)]
theorem laws_eqWhole_hO : OrcOk Try.prog (tabD laws_eqWhole_tab) (tabM laws_eqWhole_tab) := tabD_cons laws_eqInt64S_Fok (tabD_nil _)
noncomputable def laws_eqWhole_T (v2270 : Int) (v2271 : Int) (v2272 : List Int) (v2273 : Int) (v2274 : Int) (v2275 : List Int) : Tree (Bool) :=
  (.br (!decide (v2270 = v2273)) (
   .leaf false
  ) (
   (.br (!decide (v2271 = v2274)) (
    .leaf false
   ) (
    (.call (laws_eqInt64S_g v2272 v2275) fun v2276 =>
    (.br (!v2276) (
     .leaf false
    ) (
     .leaf true
    )))
   ))
  ))

noncomputable def laws_eqWhole_g (v2270 : Int) (v2271 : Int) (v2272 : List Int) (v2273 : Int) (v2274 : Int) (v2275 : List Int) : Option (Bool) := (laws_eqWhole_T v2270 v2271 v2272 v2273 v2274 v2275).run
def laws_eqWhole_enc (v2270 : Int) (v2271 : Int) (v2272 : List Int) (v2273 : Int) (v2274 : Int) (v2275 : List Int) (y : Bool) : Rs := (.bool y, [])
theorem laws_eqWhole_den (v2270 : Int) (v2271 : Int) (v2272 : List Int) (v2273 : Int) (v2274 : Int) (v2275 : List Int) : (den TT (tabD laws_eqWhole_tab) (tabM laws_eqWhole_tab) (laws_eqWhole_LO v2270 v2271 v2272 v2273 v2274 v2275) (codeOf Try.f16) ([.agg [.int .i64 v2270, .int .i64 v2271, .bslc (BR.root 0) (.i64 v2272)], .agg [.int .i64 v2273, .int .i64 v2274, .bslc (BR.root 1) (.i64 v2275)]] ++ List.replicate (Try.f16.ntmps - ([.agg [.int .i64 v2270, .int .i64 v2271, .bslc (BR.root 0) (.i64 v2272)], .agg [.int .i64 v2273, .int .i64 v2274, .bslc (BR.root 1) (.i64 v2275)]] : List DV).length) .undef) []).bind (retD TT Try.f16.results.toList 0) = (laws_eqWhole_T v2270 v2271 v2272 v2273 v2274 v2275).bind fun y => .leaf (laws_eqWhole_enc v2270 v2271 v2272 v2273 v2274 v2275 y) := by kernel_rfl
theorem laws_eqWhole_fn (v2270 : Int) (v2271 : Int) (v2272 : List Int) (v2273 : Int) (v2274 : Int) (v2275 : List Int) (F : Fr) (h0 : St F [] F.H0) (hA : DVs.Ok F [] [.agg [.int .i64 v2270, .int .i64 v2271, .bslc (BR.root 0) (.i64 v2272)], .agg [.int .i64 v2273, .int .i64 v2274, .bslc (BR.root 1) (.i64 v2275)]]) {y : Bool} (hy : laws_eqWhole_g v2270 v2271 v2272 v2273 v2274 v2275 = some y) : ∃ F' H', Fwd 0 F F' [] (laws_eqWhole_enc v2270 v2271 v2272 v2273 v2274 v2275 y).2 ∧ FnOk Try.prog 16 (DVs.av F [.agg [.int .i64 v2270, .int .i64 v2271, .bslc (BR.root 0) (.i64 v2272)], .agg [.int .i64 v2273, .int .i64 v2274, .bslc (BR.root 1) (.i64 v2275)]]) F.H0 ((laws_eqWhole_enc v2270 v2271 v2272 v2273 v2274 v2275 y).1.av F') H' ∧ St F' (laws_eqWhole_enc v2270 v2271 v2272 v2273 v2274 v2275 y).2 H' ∧ (laws_eqWhole_enc v2270 v2271 v2272 v2273 v2274 v2275 y).1.Ok F' (laws_eqWhole_enc v2270 v2271 v2272 v2273 v2274 v2275 y).2 :=
  fn_fin tok laws_eqWhole_hO mixed Try.func16 Try.call16 (by kernel_rfl) (LoopsOk_eq (l := []) (by kernel_rfl) trivial) (laws_eqWhole_den v2270 v2271 v2272 v2273 v2274 v2275) hy h0 hA
noncomputable def laws_eqWhole_F : DFn := fun args L =>
  match args with
  | [.agg [.int .i64 v2270, .int .i64 v2271, a1], .agg [.int .i64 v2273, .int .i64 v2274, a2]] =>
    optT (rowI64 L a1) fun v2272 =>
    optT (rowI64 L a2) fun v2275 =>
    .call (laws_eqWhole_g v2270 v2271 v2272 v2273 v2274 v2275) fun y => .leaf (.bool y, L)
  | _ => .fail
theorem laws_eqWhole_Fok : COk Try.prog 16 laws_eqWhole_F true := by
  intro F L H args r L' hs ha hr
  unfold laws_eqWhole_F at hr
  split at hr
  · rename_i v2270 v2271 a1 v2273 v2274 a2
    obtain ⟨v2272, hv2272, hr⟩ := optT_run hr
    obtain ⟨v2275, hv2275, hr⟩ := optT_run hr
    simp only [Tree.run] at hr
    obtain ⟨y, hy, hr⟩ := Option.bind_eq_some_iff.1 hr
    simp only [Tree.run, Option.some.injEq, Prod.mk.injEq] at hr
    obtain ⟨rfl, rfl⟩ := hr
    exact call_ok0 hs (fun k => (([a1.av F, a2.av F] : List AV)[k]?).getD .top) [.agg [.int .i64 v2270, .int .i64 v2271, a1], .agg [.int .i64 v2273, .int .i64 v2274, a2]] [.agg [.int .i64 v2270, .int .i64 v2271, .bslc (BR.root 0) (.i64 v2272)], .agg [.int .i64 v2273, .int .i64 v2274, .bslc (BR.root 1) (.i64 v2275)]] (fun F' h0 hi hρ => ⟨by simp [DVs.av, DV.av, BR.av, hρ], laws_eqWhole_fn v2270 v2271 v2272 v2273 v2274 v2275 F' (st_nil hi) ⟨⟨trivial, trivial, bslc_ok hi (by rw [h0, hρ]; exact rowI64_ok hs (DVs.okAt (DVs.okAt ha 0 rfl) 2 rfl) hv2272), trivial⟩, ⟨trivial, trivial, bslc_ok hi (by rw [h0, hρ]; exact rowI64_ok hs (DVs.okAt (DVs.okAt ha 1 rfl) 2 rfl) hv2275), trivial⟩, trivial⟩ hy⟩) rfl
  · cases hr
/-! laws.markInt64S -/
noncomputable def laws_markInt64S_l0_T (s : Int × Int × (List Int)) : Tree ((Int × Int × (List Int)) ⊕ (Int × (List Int))) :=
  (.br (decide (s.2.1 < (((s.2.2).length : Nat) : Int))) (
   (.grd (inb s.2.1 ((s.2.2).length)) <|
   .leaf (.inl (IntKind.i64.wrap (s.1 + (1 : Int)), IntKind.i64.wrap (s.2.1 + (1 : Int)), List.set s.2.2 (Int.toNat s.2.1) s.1)))
  ) (
   .leaf (.inr (s.1, s.2.2))
  ))

noncomputable def laws_markInt64S_l0_g (s0 : Int × Int × (List Int)) : Option (Int × (List Int)) := whileM (fun s => (laws_markInt64S_l0_T s).run) s0
def laws_markInt64S_l0_E (v2288 : List Int) (v2289 : Int) (s : Int × Int × (List Int)) : Sd := ([.own 0 0 ((s.2.2).length), .int .i64 s.1, .top, .top, .top, .int .i64 s.2.1, .top, .top, .top, .top, .top, .top, .top, .top, .top, .top, .top, .top, .top], [.row (.i64 s.2.2) 0])
def laws_markInt64S_l0_X (v2288 : List Int) (v2289 : Int) (x : Int × (List Int)) : Out := (.normal, [.top, .int .i64 x.1, .top, .top, .top, .top, .top, .top, .top, .top, .top, .top, .top, .top, .top, .top, .top, .top, .top], [.row (.i64 x.2) 0])
def laws_markInt64S_l0_kill : List Nat := [0, 0, 1, 1, 1, 0, 1, 1, 1, 1, 1, 1, 1, 1, 1, 1, 1, 1, 1]
def laws_markInt64S_l0_nx : Exit → List Nat
  | .exit 0 => [1, 0, 1, 1, 1, 1, 1, 1, 1, 1, 1, 1, 1, 1, 1, 1, 1, 1, 1]
  | .ret => [1, 1, 1, 1, 0, 1, 1, 1, 1, 1, 1, 1, 1, 1, 1, 1, 1, 1, 1]
  | _ => []
noncomputable def laws_markInt64S_LO (v2288 : List Int) (v2289 : Int) : LOr := fun id e L =>
  match id with
  | 0 => .need (normA 1 laws_markInt64S_l0_kill e L = some (laws_markInt64S_l0_E v2288 v2289 ((gI (vAt e 1)), (gI (vAt e 5)), (gRI L (vAt e 0))))) (.call (laws_markInt64S_l0_g ((gI (vAt e 1)), (gI (vAt e 5)), (gRI L (vAt e 0)))) fun x => .leaf (laws_markInt64S_l0_X v2288 v2289 x))
  | _ => .fail
noncomputable def laws_markInt64S_tab : List (FuncId × DFn × Bool) := []
theorem laws_markInt64S_hO : OrcOk Try.prog (tabD laws_markInt64S_tab) (tabM laws_markInt64S_tab) := tabD_nil _
theorem laws_markInt64S_l0_be (v2288 : List Int) (v2289 : Int) (s : Int × Int × (List Int)) : bodyT TT (tabD laws_markInt64S_tab) (tabM laws_markInt64S_tab) (laws_markInt64S_LO v2288 v2289) 1 laws_markInt64S_l0_kill laws_markInt64S_l0_nx (bodyOf Try.f24 0) 0 (laws_markInt64S_l0_E v2288 v2289 s) = (laws_markInt64S_l0_T s).bind fun y => .leaf (outS (laws_markInt64S_l0_E v2288 v2289) (laws_markInt64S_l0_X v2288 v2289) y) := by kernel_rfl
theorem laws_markInt64S_l0_ok (v2288 : List Int) (v2289 : Int) : LSound Try.prog 1 (laws_markInt64S_LO v2288 v2289) 0 (bodyOf Try.f24 0) := by
  intro e L out h
  exact lo_ok (E := laws_markInt64S_l0_E v2288 v2289) (gT := laws_markInt64S_l0_T) (X := laws_markInt64S_l0_X v2288 v2289) (s0 := ((gI (vAt e 1)), (gI (vAt e 5)), (gRI L (vAt e 0)))) tok laws_markInt64S_hO mixed (LoopsOk_eq (l := []) (by kernel_rfl) trivial) (laws_markInt64S_l0_be v2288 v2289) rfl (by intro x; rfl) h
noncomputable def laws_markInt64S_T (v2288 : List Int) (v2289 : Int) : Tree (Int × (List Int)) :=
  (.need (some (laws_markInt64S_l0_E v2288 v2289 (v2289, (0 : Int), v2288)) = some (laws_markInt64S_l0_E v2288 v2289 (v2289, (0 : Int), v2288))) <|
  (.call (laws_markInt64S_l0_g (v2289, (0 : Int), v2288)) fun v2298 =>
  .leaf (v2298.1, v2298.2)))

noncomputable def laws_markInt64S_g (v2288 : List Int) (v2289 : Int) : Option (Int × (List Int)) := (laws_markInt64S_T v2288 v2289).run
def laws_markInt64S_enc (v2288 : List Int) (v2289 : Int) (y : Int × (List Int)) : Rs := (.int .i64 y.1, [.row (.i64 y.2) 0])
theorem laws_markInt64S_den (v2288 : List Int) (v2289 : Int) : (den TT (tabD laws_markInt64S_tab) (tabM laws_markInt64S_tab) (laws_markInt64S_LO v2288 v2289) (codeOf Try.f24) ([.own 0 0 v2288.length, .int .i64 v2289] ++ List.replicate (Try.f24.ntmps - ([.own 0 0 v2288.length, .int .i64 v2289] : List DV).length) .undef) [.row (.i64 v2288) 0]).bind (retD TT Try.f24.results.toList 1) = (laws_markInt64S_T v2288 v2289).bind fun y => .leaf (laws_markInt64S_enc v2288 v2289 y) := by kernel_rfl
theorem laws_markInt64S_fn (v2288 : List Int) (v2289 : Int) (F : Fr) (h0 : St F [.row (.i64 v2288) 0] F.H0) (hA : DVs.Ok F [.row (.i64 v2288) 0] [.own 0 0 v2288.length, .int .i64 v2289]) {y : Int × (List Int)} (hy : laws_markInt64S_g v2288 v2289 = some y) : ∃ F' H', Fwd 1 F F' [.row (.i64 v2288) 0] (laws_markInt64S_enc v2288 v2289 y).2 ∧ FnOk Try.prog 24 (DVs.av F [.own 0 0 v2288.length, .int .i64 v2289]) F.H0 ((laws_markInt64S_enc v2288 v2289 y).1.av F') H' ∧ St F' (laws_markInt64S_enc v2288 v2289 y).2 H' ∧ (laws_markInt64S_enc v2288 v2289 y).1.Ok F' (laws_markInt64S_enc v2288 v2289 y).2 :=
  fn_fin tok laws_markInt64S_hO mixed Try.func24 Try.call24 (by kernel_rfl) (LoopsOk_eq (l := [(0, bodyOf Try.f24 0)]) (by kernel_rfl) ⟨laws_markInt64S_l0_ok v2288 v2289, trivial⟩) (laws_markInt64S_den v2288 v2289) hy h0 hA
noncomputable def laws_markInt64S_F : DFn := fun args L =>
  match args with
  | [a1, .int .i64 v2289] =>
    optT (ownI64 L a1) fun qv2288 =>
    (match sepB [qv2288.1] [] with
    | true =>
    .call (laws_markInt64S_g qv2288.2 v2289) fun y => .grd (decide (y.2.length = qv2288.2.length)) (.leaf (.int .i64 y.1, setRows L ([qv2288.1].zip [.i64 y.2])))
    | false => .fail)
  | _ => .fail
theorem laws_markInt64S_Fok : COk Try.prog 24 laws_markInt64S_F false := by
  intro F L H args r L' hs ha hr
  unfold laws_markInt64S_F at hr
  split at hr
  · rename_i a1 v2289
    obtain ⟨⟨jv2288, v2288⟩, hqv2288, hr⟩ := optT_run hr
    simp only at hr
    split at hr
    · rename_i hsep
      obtain ⟨hnd, hsepv⟩ := sepB_spec hsep
      simp only [Tree.run] at hr
      obtain ⟨y, hy, hr⟩ := Option.bind_eq_some_iff.1 hr
      try simp only [Tree.run] at hr
      obtain ⟨hl0, hr⟩ := ite_run hr
      simp only [Option.some.injEq, Prod.mk.injEq] at hr
      obtain ⟨rfl, rfl⟩ := hr
      obtain ⟨hr0, hu0, ha0, hb0⟩ := (ownR_spec (DVs.okAt ha 0 rfl) (ownI64_or hqv2288))
      exact mut_ok hs (fun k => (([a1.av F] : List AV)[k]?).getD .top) [a1, .int .i64 v2289] [.own 0 0 v2288.length, .int .i64 v2289] [jv2288] [.i64 v2288] [.i64 y.2] hnd rfl rfl (fun i j q h1 h2 => by
          rcases i with _ | i
          · simp at h1 h2; subst h1; subst h2; exact hr0
          · simp at h1) (fun i q q' h1 h2 => by
          rcases i with _ | i
          · simp at h1 h2; subst h1; subst h2; first | exact of_decide_eq_true hl0 | rfl
          · simp at h1) (fun j hj => by simp at hj; subst hj; simp [DVs.refs, DV.refs, hu0]) (fun F' h0 hρ ab hst hS => ⟨by (have ab0 := ab 0 _ rfl; simp [DVs.av, DV.av, BR.av, hρ, Row.len, ha0, ab0]), by
          obtain ⟨F1, H1, k0, k1, k2, _⟩ := laws_markInt64S_fn v2288 v2289 F' hst ⟨⟨_, rfl, Nat.le_refl _, Nat.le_refl _, fun _ => rfl, (ownR_spec (DVs.okAt ha 0 rfl) (ownI64_or hqv2288)).2.2.2⟩, trivial, trivial⟩ hy
          exact ⟨F1, H1, k0, k1, k2⟩⟩) (fun F1 F2 => rfl) (fun F L' => trivial)
    · cases hr
  · cases hr
/-! laws.markWhole -/
noncomputable def laws_markWhole_LO (v2299 : Int) (v2300 : Int) (v2301 : List Int) (v2302 : Int) : LOr := fun id e L =>
  match id with
  | _ => .fail
noncomputable def laws_markWhole_tab : List (FuncId × DFn × Bool) := [(24, laws_markInt64S_F, false)]
theorem laws_markWhole_hO : OrcOk Try.prog (tabD laws_markWhole_tab) (tabM laws_markWhole_tab) := tabD_cons laws_markInt64S_Fok (tabD_nil _)
noncomputable def laws_markWhole_T (v2301 : List Int) (v2302 : Int) : Tree (Int × (List Int)) :=
  (.call (laws_markInt64S_g v2301 v2302) fun v2303 =>
  (.grd (decide (v2303.2.length = v2301.length)) <|
  .leaf (v2303.1, v2303.2)))

noncomputable def laws_markWhole_g (v2301 : List Int) (v2302 : Int) : Option (Int × (List Int)) := (laws_markWhole_T v2301 v2302).run
def laws_markWhole_enc (v2299 : Int) (v2300 : Int) (v2301 : List Int) (v2302 : Int) (y : Int × (List Int)) : Rs := (.int .i64 y.1, [.row (.i64 y.2) 0])
theorem laws_markWhole_den (v2299 : Int) (v2300 : Int) (v2301 : List Int) (v2302 : Int) : (den TT (tabD laws_markWhole_tab) (tabM laws_markWhole_tab) (laws_markWhole_LO v2299 v2300 v2301 v2302) (codeOf Try.f23) ([.agg [.int .i64 v2299, .int .i64 v2300, .own 0 0 v2301.length], .int .i64 v2302] ++ List.replicate (Try.f23.ntmps - ([.agg [.int .i64 v2299, .int .i64 v2300, .own 0 0 v2301.length], .int .i64 v2302] : List DV).length) .undef) [.row (.i64 v2301) 0]).bind (retD TT Try.f23.results.toList 1) = (laws_markWhole_T v2301 v2302).bind fun y => .leaf (laws_markWhole_enc v2299 v2300 v2301 v2302 y) := by kernel_rfl
theorem laws_markWhole_fn (v2299 : Int) (v2300 : Int) (v2301 : List Int) (v2302 : Int) (F : Fr) (h0 : St F [.row (.i64 v2301) 0] F.H0) (hA : DVs.Ok F [.row (.i64 v2301) 0] [.agg [.int .i64 v2299, .int .i64 v2300, .own 0 0 v2301.length], .int .i64 v2302]) {y : Int × (List Int)} (hy : laws_markWhole_g v2301 v2302 = some y) : ∃ F' H', Fwd 1 F F' [.row (.i64 v2301) 0] (laws_markWhole_enc v2299 v2300 v2301 v2302 y).2 ∧ FnOk Try.prog 23 (DVs.av F [.agg [.int .i64 v2299, .int .i64 v2300, .own 0 0 v2301.length], .int .i64 v2302]) F.H0 ((laws_markWhole_enc v2299 v2300 v2301 v2302 y).1.av F') H' ∧ St F' (laws_markWhole_enc v2299 v2300 v2301 v2302 y).2 H' ∧ (laws_markWhole_enc v2299 v2300 v2301 v2302 y).1.Ok F' (laws_markWhole_enc v2299 v2300 v2301 v2302 y).2 :=
  fn_fin tok laws_markWhole_hO mixed Try.func23 Try.call23 (by kernel_rfl) (LoopsOk_eq (l := []) (by kernel_rfl) trivial) (laws_markWhole_den v2299 v2300 v2301 v2302) hy h0 hA
noncomputable def laws_markWhole_F : DFn := fun args L =>
  match args with
  | [.agg [.int .i64 v2299, .int .i64 v2300, a1], .int .i64 v2302] =>
    optT (ownI64 L a1) fun qv2301 =>
    (match sepB [qv2301.1] [] with
    | true =>
    .call (laws_markWhole_g qv2301.2 v2302) fun y => .grd (decide (y.2.length = qv2301.2.length)) (.leaf (.int .i64 y.1, setRows L ([qv2301.1].zip [.i64 y.2])))
    | false => .fail)
  | _ => .fail
theorem laws_markWhole_Fok : COk Try.prog 23 laws_markWhole_F false := by
  intro F L H args r L' hs ha hr
  unfold laws_markWhole_F at hr
  split at hr
  · rename_i v2299 v2300 a1 v2302
    obtain ⟨⟨jv2301, v2301⟩, hqv2301, hr⟩ := optT_run hr
    simp only at hr
    split at hr
    · rename_i hsep
      obtain ⟨hnd, hsepv⟩ := sepB_spec hsep
      simp only [Tree.run] at hr
      obtain ⟨y, hy, hr⟩ := Option.bind_eq_some_iff.1 hr
      try simp only [Tree.run] at hr
      obtain ⟨hl0, hr⟩ := ite_run hr
      simp only [Option.some.injEq, Prod.mk.injEq] at hr
      obtain ⟨rfl, rfl⟩ := hr
      obtain ⟨hr0, hu0, ha0, hb0⟩ := (ownR_spec (DVs.okAt (DVs.okAt ha 0 rfl) 2 rfl) (ownI64_or hqv2301))
      exact mut_ok hs (fun k => (([a1.av F] : List AV)[k]?).getD .top) [.agg [.int .i64 v2299, .int .i64 v2300, a1], .int .i64 v2302] [.agg [.int .i64 v2299, .int .i64 v2300, .own 0 0 v2301.length], .int .i64 v2302] [jv2301] [.i64 v2301] [.i64 y.2] hnd rfl rfl (fun i j q h1 h2 => by
          rcases i with _ | i
          · simp at h1 h2; subst h1; subst h2; exact hr0
          · simp at h1) (fun i q q' h1 h2 => by
          rcases i with _ | i
          · simp at h1 h2; subst h1; subst h2; first | exact of_decide_eq_true hl0 | rfl
          · simp at h1) (fun j hj => by simp at hj; subst hj; simp [DVs.refs, DV.refs, hu0]) (fun F' h0 hρ ab hst hS => ⟨by (have ab0 := ab 0 _ rfl; simp [DVs.av, DV.av, BR.av, hρ, Row.len, ha0, ab0]), by
          obtain ⟨F1, H1, k0, k1, k2, _⟩ := laws_markWhole_fn v2299 v2300 v2301 v2302 F' hst ⟨⟨trivial, trivial, ⟨_, rfl, Nat.le_refl _, Nat.le_refl _, fun _ => rfl, (ownR_spec (DVs.okAt (DVs.okAt ha 0 rfl) 2 rfl) (ownI64_or hqv2301)).2.2.2⟩, trivial⟩, trivial, trivial⟩ hy
          exact ⟨F1, H1, k0, k1, k2⟩⟩) (fun F1 F2 => rfl) (fun F L' => trivial)
    · cases hr
  · cases hr
/-! laws.markInt64S -/
noncomputable def laws_markInt64S_i1_l0_T (s : Unit) : Tree ((Unit) ⊕ (Unit)) :=
  (.br (decide ((0 : Int) < (0 : Int))) (
   .fail
  ) (
   .leaf (.inr ())
  ))

noncomputable def laws_markInt64S_i1_l0_g (s0 : Unit) : Option (Unit) := whileM (fun s => (laws_markInt64S_i1_l0_T s).run) s0
def laws_markInt64S_i1_l0_E (v2307 : Int) (s : Unit) : Sd := ([.nilslc, .int .i64 v2307, .top, .top, .top, .int .i64 (0 : Int), .top, .top, .top, .top, .top, .top, .top, .top, .top, .top, .top, .top, .top], [])
def laws_markInt64S_i1_l0_X (v2307 : Int) (x : Unit) : Out := (.normal, [.top, .int .i64 v2307, .top, .top, .top, .top, .top, .top, .top, .top, .top, .top, .top, .top, .top, .top, .top, .top, .top], [])
def laws_markInt64S_i1_l0_kill : List Nat := [0, 0, 1, 1, 1, 0, 1, 1, 1, 1, 1, 1, 1, 1, 1, 1, 1, 1, 1]
def laws_markInt64S_i1_l0_nx : Exit → List Nat
  | .exit 0 => [1, 0, 1, 1, 1, 1, 1, 1, 1, 1, 1, 1, 1, 1, 1, 1, 1, 1, 1]
  | .ret => [1, 1, 1, 1, 0, 1, 1, 1, 1, 1, 1, 1, 1, 1, 1, 1, 1, 1, 1]
  | _ => []
noncomputable def laws_markInt64S_i1_LO (v2307 : Int) : LOr := fun id e L =>
  match id with
  | 0 => .need (normA 0 laws_markInt64S_i1_l0_kill e L = some (laws_markInt64S_i1_l0_E v2307 ())) (.call (laws_markInt64S_i1_l0_g ()) fun x => .leaf (laws_markInt64S_i1_l0_X v2307 x))
  | _ => .fail
noncomputable def laws_markInt64S_i1_tab : List (FuncId × DFn × Bool) := []
theorem laws_markInt64S_i1_hO : OrcOk Try.prog (tabD laws_markInt64S_i1_tab) (tabM laws_markInt64S_i1_tab) := tabD_nil _
theorem laws_markInt64S_i1_l0_be (v2307 : Int) (s : Unit) : bodyT TT (tabD laws_markInt64S_i1_tab) (tabM laws_markInt64S_i1_tab) (laws_markInt64S_i1_LO v2307) 0 laws_markInt64S_i1_l0_kill laws_markInt64S_i1_l0_nx (bodyOf Try.f24 0) 0 (laws_markInt64S_i1_l0_E v2307 s) = (laws_markInt64S_i1_l0_T s).bind fun y => .leaf (outS (laws_markInt64S_i1_l0_E v2307) (laws_markInt64S_i1_l0_X v2307) y) := by kernel_rfl
theorem laws_markInt64S_i1_l0_ok (v2307 : Int) : LSound Try.prog 0 (laws_markInt64S_i1_LO v2307) 0 (bodyOf Try.f24 0) := by
  intro e L out h
  exact lo_ok (E := laws_markInt64S_i1_l0_E v2307) (gT := laws_markInt64S_i1_l0_T) (X := laws_markInt64S_i1_l0_X v2307) (s0 := ()) tok laws_markInt64S_i1_hO mixed (LoopsOk_eq (l := []) (by kernel_rfl) trivial) (laws_markInt64S_i1_l0_be v2307) rfl (by intro x; rfl) h
noncomputable def laws_markInt64S_i1_T (v2307 : Int) : Tree (Int) :=
  (.need (some (laws_markInt64S_i1_l0_E v2307 ()) = some (laws_markInt64S_i1_l0_E v2307 ())) <|
  (.call (laws_markInt64S_i1_l0_g ()) fun v2310 =>
  .leaf v2307))

noncomputable def laws_markInt64S_i1_g (v2307 : Int) : Option (Int) := (laws_markInt64S_i1_T v2307).run
def laws_markInt64S_i1_enc (v2307 : Int) (y : Int) : Rs := (.int .i64 y, [])
theorem laws_markInt64S_i1_den (v2307 : Int) : (den TT (tabD laws_markInt64S_i1_tab) (tabM laws_markInt64S_i1_tab) (laws_markInt64S_i1_LO v2307) (codeOf Try.f24) ([.nilslc, .int .i64 v2307] ++ List.replicate (Try.f24.ntmps - ([.nilslc, .int .i64 v2307] : List DV).length) .undef) []).bind (retD TT Try.f24.results.toList 0) = (laws_markInt64S_i1_T v2307).bind fun y => .leaf (laws_markInt64S_i1_enc v2307 y) := by kernel_rfl
theorem laws_markInt64S_i1_fn (v2307 : Int) (F : Fr) (h0 : St F [] F.H0) (hA : DVs.Ok F [] [.nilslc, .int .i64 v2307]) {y : Int} (hy : laws_markInt64S_i1_g v2307 = some y) : ∃ F' H', Fwd 0 F F' [] (laws_markInt64S_i1_enc v2307 y).2 ∧ FnOk Try.prog 24 (DVs.av F [.nilslc, .int .i64 v2307]) F.H0 ((laws_markInt64S_i1_enc v2307 y).1.av F') H' ∧ St F' (laws_markInt64S_i1_enc v2307 y).2 H' ∧ (laws_markInt64S_i1_enc v2307 y).1.Ok F' (laws_markInt64S_i1_enc v2307 y).2 :=
  fn_fin tok laws_markInt64S_i1_hO mixed Try.func24 Try.call24 (by kernel_rfl) (LoopsOk_eq (l := [(0, bodyOf Try.f24 0)]) (by kernel_rfl) ⟨laws_markInt64S_i1_l0_ok v2307, trivial⟩) (laws_markInt64S_i1_den v2307) hy h0 hA
noncomputable def laws_markInt64S_i1_F : DFn := fun args L =>
  match args with
  | [.nilslc, .int .i64 v2307] =>
    .call (laws_markInt64S_i1_g v2307) fun y => .leaf (.int .i64 y, L)
  | _ => .fail
theorem laws_markInt64S_i1_Fok : COk Try.prog 24 laws_markInt64S_i1_F true := by
  intro F L H args r L' hs ha hr
  unfold laws_markInt64S_i1_F at hr
  split at hr
  · rename_i v2307
    simp only [Tree.run] at hr
    obtain ⟨y, hy, hr⟩ := Option.bind_eq_some_iff.1 hr
    simp only [Tree.run, Option.some.injEq, Prod.mk.injEq] at hr
    obtain ⟨rfl, rfl⟩ := hr
    exact call_ok0 hs (fun k => (([] : List AV)[k]?).getD .top) [.nilslc, .int .i64 v2307] [.nilslc, .int .i64 v2307] (fun F' h0 hi hρ => ⟨by simp [DVs.av, DV.av, BR.av, hρ], laws_markInt64S_i1_fn v2307 F' (st_nil hi) ⟨trivial, trivial, trivial⟩ hy⟩) rfl
  · cases hr
/-! laws.heldInt64S -/
noncomputable def laws_heldInt64S_l0_T (v2312 : List Int) (s : Int × Int) : Tree ((Int × Int) ⊕ ((Unit) ⊕ (Int))) :=
  (.br (decide (s.2 < ((v2312.length : Nat) : Int))) (
   (.grd (inb s.2 v2312.length) <|
   (.br (!decide (nth v2312 (Int.toNat s.2) = s.1)) (
    .leaf (.inr (.inl ()))
   ) (
    .leaf (.inl (IntKind.i64.wrap (s.1 + (1 : Int)), IntKind.i64.wrap (s.2 + (1 : Int))))
   )))
  ) (
   .leaf (.inr (.inr s.1))
  ))

noncomputable def laws_heldInt64S_l0_g (v2312 : List Int) (s0 : Int × Int) : Option ((Unit) ⊕ (Int)) := whileM (fun s => (laws_heldInt64S_l0_T v2312 s).run) s0
def laws_heldInt64S_l0_E (v2312 : List Int) (v2313 : Int) (s : Int × Int) : Sd := ([.bslc (BR.root 0) (.i64 v2312), .int .i64 s.1, .top, .top, .top, .int .i64 s.2, .top, .top, .top, .top, .top, .top, .top, .top, .top, .top, .top, .top, .top, .top, .top], [])
def laws_heldInt64S_l0_X (v2312 : List Int) (v2313 : Int) (x : (Unit) ⊕ (Int)) : Out := (match x with | .inl x => (.ret, [.top, .top, .top, .top, .int .i64 (-1 : Int), .top, .top, .top, .top, .top, .top, .top, .top, .top, .top, .top, .top, .top, .top, .top, .top], []) | .inr x => (.normal, [.top, .int .i64 x, .top, .top, .top, .top, .top, .top, .top, .top, .top, .top, .top, .top, .top, .top, .top, .top, .top, .top, .top], []))
def laws_heldInt64S_l0_kill : List Nat := [0, 0, 1, 1, 1, 0, 1, 1, 1, 1, 1, 1, 1, 1, 1, 1, 1, 1, 1, 1, 1]
def laws_heldInt64S_l0_nx : Exit → List Nat
  | .exit 0 => [1, 0, 1, 1, 1, 1, 1, 1, 1, 1, 1, 1, 1, 1, 1, 1, 1, 1, 1, 1, 1]
  | .ret => [1, 1, 1, 1, 0, 1, 1, 1, 1, 1, 1, 1, 1, 1, 1, 1, 1, 1, 1, 1, 1]
  | _ => []
noncomputable def laws_heldInt64S_LO (v2312 : List Int) (v2313 : Int) : LOr := fun id e L =>
  match id with
  | 0 => .need (normA 0 laws_heldInt64S_l0_kill e L = some (laws_heldInt64S_l0_E v2312 v2313 ((gI (vAt e 1)), (gI (vAt e 5))))) (.call (laws_heldInt64S_l0_g v2312 ((gI (vAt e 1)), (gI (vAt e 5)))) fun x => .sum x (fun b0 => .leaf (laws_heldInt64S_l0_X v2312 v2313 (.inl b0))) (fun c0 => .leaf (laws_heldInt64S_l0_X v2312 v2313 (.inr c0))))
  | _ => .fail
noncomputable def laws_heldInt64S_tab : List (FuncId × DFn × Bool) := []
theorem laws_heldInt64S_hO : OrcOk Try.prog (tabD laws_heldInt64S_tab) (tabM laws_heldInt64S_tab) := tabD_nil _
theorem laws_heldInt64S_l0_be (v2312 : List Int) (v2313 : Int) (s : Int × Int) : bodyT TT (tabD laws_heldInt64S_tab) (tabM laws_heldInt64S_tab) (laws_heldInt64S_LO v2312 v2313) 0 laws_heldInt64S_l0_kill laws_heldInt64S_l0_nx (bodyOf Try.f25 0) 0 (laws_heldInt64S_l0_E v2312 v2313 s) = (laws_heldInt64S_l0_T v2312 s).bind fun y => .leaf (outS (laws_heldInt64S_l0_E v2312 v2313) (laws_heldInt64S_l0_X v2312 v2313) y) := by kernel_rfl
theorem laws_heldInt64S_l0_ok (v2312 : List Int) (v2313 : Int) : LSound Try.prog 0 (laws_heldInt64S_LO v2312 v2313) 0 (bodyOf Try.f25 0) := by
  intro e L out h
  exact lo_ok (E := laws_heldInt64S_l0_E v2312 v2313) (gT := laws_heldInt64S_l0_T v2312) (X := laws_heldInt64S_l0_X v2312 v2313) (s0 := ((gI (vAt e 1)), (gI (vAt e 5)))) tok laws_heldInt64S_hO mixed (LoopsOk_eq (l := []) (by kernel_rfl) trivial) (laws_heldInt64S_l0_be v2312 v2313) rfl (by intro x; (cases x with | inl b => rfl | inr x => exact rfl)) h
noncomputable def laws_heldInt64S_T (v2312 : List Int) (v2313 : Int) : Tree (Int) :=
  (.need (some (laws_heldInt64S_l0_E v2312 v2313 (v2313, (0 : Int))) = some (laws_heldInt64S_l0_E v2312 v2313 (v2313, (0 : Int)))) <|
  (.call (laws_heldInt64S_l0_g v2312 (v2313, (0 : Int))) fun v2320 =>
  (.sum v2320 (fun v2321 =>
   .leaf (-1 : Int)
  ) (fun v2322 =>
   .leaf v2322
  ))))

noncomputable def laws_heldInt64S_g (v2312 : List Int) (v2313 : Int) : Option (Int) := (laws_heldInt64S_T v2312 v2313).run
def laws_heldInt64S_enc (v2312 : List Int) (v2313 : Int) (y : Int) : Rs := (.int .i64 y, [])
theorem laws_heldInt64S_den (v2312 : List Int) (v2313 : Int) : (den TT (tabD laws_heldInt64S_tab) (tabM laws_heldInt64S_tab) (laws_heldInt64S_LO v2312 v2313) (codeOf Try.f25) ([.bslc (BR.root 0) (.i64 v2312), .int .i64 v2313] ++ List.replicate (Try.f25.ntmps - ([.bslc (BR.root 0) (.i64 v2312), .int .i64 v2313] : List DV).length) .undef) []).bind (retD TT Try.f25.results.toList 0) = (laws_heldInt64S_T v2312 v2313).bind fun y => .leaf (laws_heldInt64S_enc v2312 v2313 y) := by kernel_rfl
theorem laws_heldInt64S_fn (v2312 : List Int) (v2313 : Int) (F : Fr) (h0 : St F [] F.H0) (hA : DVs.Ok F [] [.bslc (BR.root 0) (.i64 v2312), .int .i64 v2313]) {y : Int} (hy : laws_heldInt64S_g v2312 v2313 = some y) : ∃ F' H', Fwd 0 F F' [] (laws_heldInt64S_enc v2312 v2313 y).2 ∧ FnOk Try.prog 25 (DVs.av F [.bslc (BR.root 0) (.i64 v2312), .int .i64 v2313]) F.H0 ((laws_heldInt64S_enc v2312 v2313 y).1.av F') H' ∧ St F' (laws_heldInt64S_enc v2312 v2313 y).2 H' ∧ (laws_heldInt64S_enc v2312 v2313 y).1.Ok F' (laws_heldInt64S_enc v2312 v2313 y).2 :=
  fn_fin tok laws_heldInt64S_hO mixed Try.func25 Try.call25 (by kernel_rfl) (LoopsOk_eq (l := [(0, bodyOf Try.f25 0)]) (by kernel_rfl) ⟨laws_heldInt64S_l0_ok v2312 v2313, trivial⟩) (laws_heldInt64S_den v2312 v2313) hy h0 hA
noncomputable def laws_heldInt64S_F : DFn := fun args L =>
  match args with
  | [a1, .int .i64 v2313] =>
    optT (rowI64 L a1) fun v2312 =>
    .call (laws_heldInt64S_g v2312 v2313) fun y => .leaf (.int .i64 y, L)
  | _ => .fail
theorem laws_heldInt64S_Fok : COk Try.prog 25 laws_heldInt64S_F true := by
  intro F L H args r L' hs ha hr
  unfold laws_heldInt64S_F at hr
  split at hr
  · rename_i a1 v2313
    obtain ⟨v2312, hv2312, hr⟩ := optT_run hr
    simp only [Tree.run] at hr
    obtain ⟨y, hy, hr⟩ := Option.bind_eq_some_iff.1 hr
    simp only [Tree.run, Option.some.injEq, Prod.mk.injEq] at hr
    obtain ⟨rfl, rfl⟩ := hr
    exact call_ok0 hs (fun k => (([a1.av F] : List AV)[k]?).getD .top) [a1, .int .i64 v2313] [.bslc (BR.root 0) (.i64 v2312), .int .i64 v2313] (fun F' h0 hi hρ => ⟨by simp [DVs.av, DV.av, BR.av, hρ], laws_heldInt64S_fn v2312 v2313 F' (st_nil hi) ⟨bslc_ok hi (by rw [h0, hρ]; exact rowI64_ok hs (DVs.okAt ha 0 rfl) hv2312), trivial, trivial⟩ hy⟩) rfl
  · cases hr
/-! laws.FnExactSolveOver -/
noncomputable def laws_FnExactSolveOver_LO (v1 : Int) (v2 : Int) (v3 : List Int) (v4 : List Int) (v5 : Int) : LOr := fun id e L =>
  match id with
  | _ => .fail
noncomputable def laws_FnExactSolveOver_tab : List (FuncId × DFn × Bool) := [(12, laws_szWhole_F, true), (14, laws_toWhole_F, true), (20, laws_toInt64S_F, true), (19, spec_SolveOver_F, true), (21, impl_SolveOver_F, true), (22, laws_eqInt64S_F, true), (16, laws_eqWhole_F, true), (23, laws_markWhole_F, false), (24, (orD (fun args => match args with | [.nilslc, _] => true | _ => false) laws_markInt64S_i1_F laws_markInt64S_F), false), (25, laws_heldInt64S_F, true)]
theorem laws_FnExactSolveOver_hO : OrcOk Try.prog (tabD laws_FnExactSolveOver_tab) (tabM laws_FnExactSolveOver_tab) := tabD_cons laws_szWhole_Fok (tabD_cons laws_toWhole_Fok (tabD_cons laws_toInt64S_Fok (tabD_cons spec_SolveOver_Fok (tabD_cons impl_SolveOver_Fok (tabD_cons laws_eqInt64S_Fok (tabD_cons laws_eqWhole_Fok (tabD_cons laws_markWhole_Fok (tabD_cons (orD_ok (COk.weak laws_markInt64S_i1_Fok) laws_markInt64S_Fok) (tabD_cons laws_heldInt64S_Fok (tabD_nil _))))))))))
noncomputable def laws_FnExactSolveOver_T (v1 : Int) (v2 : Int) (v3 : List Int) (v4 : List Int) (v5 : Int) : Tree (Bool) :=
  (.br (decide ((1048576 : Int) < ((v4.length : Nat) : Int))) (
   .leaf true
  ) (
   (.br (decide ((laws_szWhole_v v3 (1048576 : Int)) < (0 : Int))) (
    .leaf true
   ) (
    (.call (laws_toWhole_g v1 v2 v3) fun v23 =>
    (.call (laws_toInt64S_g v4) fun v24 =>
    (.call (spec_SolveOver_g v23.1 v23.2.1 v23.2.2 v24 v5) fun v1027 =>
    (.sum v1027 (fun v1028 =>
     (.call (laws_toWhole_g v1 v2 v3) fun v1030 =>
     (.call (laws_toInt64S_g v4) fun v1031 =>
     (.call (impl_SolveOver_g v1030.1 v1030.2.1 v1030.2.2 v1031 v5) fun v2257 =>
     (.sum v2257 (fun v2258 =>
      (.call (laws_eqInt64S_g ([] : List Int) ([] : List Int)) fun v2268 =>
      (.br (!v2268) (
       .leaf false
      ) (
       (.br (!(false == false)) (
        .leaf false
       ) (
        (.call (laws_toWhole_g v1 v2 v3) fun v2269 =>
        (.call (laws_eqWhole_g v1030.1 v1030.2.1 v1030.2.2 v2269.1 v2269.2.1 v2269.2.2) fun v2277 =>
        (.br (!v2277) (
         .leaf false
        ) (
         (.call (laws_toInt64S_g v4) fun v2278 =>
         (.call (laws_eqInt64S_g v1031 v2278) fun v2279 =>
         (.br (!v2279) (
          .leaf false
         ) (
          (.call (laws_markWhole_g v1030.2.2 (1 : Int)) fun v2304 =>
          (.grd (decide (v2304.2.length = v1030.2.2.length)) <|
          (.call (laws_markInt64S_g v1031 v2304.1) fun v2305 =>
          (.grd (decide (v2305.2.length = v1031.length)) <|
          (.br (decide (v2305.1 < (0 : Int))) (
           .leaf false
          ) (
           (.call (laws_eqInt64S_g ([] : List Int) ([] : List Int)) fun v2306 =>
           (.br (!v2306) (
            .leaf false
           ) (
            (.br (!(false == false)) (
             .leaf false
            ) (
             (.call (laws_markInt64S_i1_g (1 : Int)) fun v2311 =>
             (.call (laws_heldInt64S_g ([] : List Int) (1 : Int)) fun v2323 =>
             (.br (decide (v2323 < (0 : Int))) (
              .leaf false
             ) (
              (.br (!decide (v2323 = v2311)) (
               .leaf false
              ) (
               (.call (laws_toWhole_g v1 v2 v3) fun v2324 =>
               (.call (laws_toInt64S_g v4) fun v2325 =>
               (.call (impl_SolveOver_g v2324.1 v2324.2.1 v2324.2.2 v2325 v5) fun v2326 =>
               (.sum v2326 (fun v2327 =>
                (.call (laws_eqInt64S_g ([] : List Int) ([] : List Int)) fun v2329 =>
                (.br (!v2329) (
                 .leaf false
                ) (
                 (.br (!(false == false)) (
                  .leaf false
                 ) (
                  (.call (laws_heldInt64S_g ([] : List Int) (1 : Int)) fun v2330 =>
                  (.br (decide (v2330 < (0 : Int))) (
                   .leaf false
                  ) (
                   (.br (!decide (v2330 = v2311)) (
                    .leaf false
                   ) (
                    .leaf true
                   ))
                  )))
                 ))
                )))
               ) (fun v2328 =>
                (.call (laws_eqInt64S_g v2328 ([] : List Int)) fun v2331 =>
                (.br (!v2331) (
                 .leaf false
                ) (
                 (.br (!(true == false)) (
                  .leaf false
                 ) (
                  (.call (laws_heldInt64S_g ([] : List Int) (1 : Int)) fun v2332 =>
                  (.br (decide (v2332 < (0 : Int))) (
                   .leaf false
                  ) (
                   (.br (!decide (v2332 = v2311)) (
                    .leaf false
                   ) (
                    .leaf true
                   ))
                  )))
                 ))
                )))
               )))))
              ))
             ))))
            ))
           )))
          ))))))
         ))))
        ))))
       ))
      )))
     ) (fun v2259 =>
      (.call (laws_eqInt64S_g v2259 ([] : List Int)) fun v2333 =>
      (.br (!v2333) (
       .leaf false
      ) (
       (.br (!(true == false)) (
        .leaf false
       ) (
        (.call (laws_toWhole_g v1 v2 v3) fun v2334 =>
        (.call (laws_eqWhole_g v1030.1 v1030.2.1 v1030.2.2 v2334.1 v2334.2.1 v2334.2.2) fun v2335 =>
        (.br (!v2335) (
         .leaf false
        ) (
         (.call (laws_toInt64S_g v4) fun v2336 =>
         (.call (laws_eqInt64S_g v1031 v2336) fun v2337 =>
         (.br (!v2337) (
          .leaf false
         ) (
          (.call (laws_markWhole_g v1030.2.2 (1 : Int)) fun v2338 =>
          (.grd (decide (v2338.2.length = v1030.2.2.length)) <|
          (.call (laws_markInt64S_g v1031 v2338.1) fun v2339 =>
          (.grd (decide (v2339.2.length = v1031.length)) <|
          (.br (decide (v2339.1 < (0 : Int))) (
           .leaf false
          ) (
           (.call (laws_eqInt64S_g v2259 ([] : List Int)) fun v2340 =>
           (.br (!v2340) (
            .leaf false
           ) (
            (.br (!(true == false)) (
             .leaf false
            ) (
             (.call (laws_markInt64S_g v2259 (1 : Int)) fun v2341 =>
             (.grd (decide (v2341.2.length = v2259.length)) <|
             (.call (laws_heldInt64S_g v2341.2 (1 : Int)) fun v2342 =>
             (.br (decide (v2342 < (0 : Int))) (
              .leaf false
             ) (
              (.br (!decide (v2342 = v2341.1)) (
               .leaf false
              ) (
               (.call (laws_toWhole_g v1 v2 v3) fun v2343 =>
               (.call (laws_toInt64S_g v4) fun v2344 =>
               (.call (impl_SolveOver_g v2343.1 v2343.2.1 v2343.2.2 v2344 v5) fun v2345 =>
               (.sum v2345 (fun v2346 =>
                (.call (laws_eqInt64S_g ([] : List Int) ([] : List Int)) fun v2348 =>
                (.br (!v2348) (
                 .leaf false
                ) (
                 (.br (!(false == false)) (
                  .leaf false
                 ) (
                  (.call (laws_heldInt64S_g v2341.2 (1 : Int)) fun v2349 =>
                  (.br (decide (v2349 < (0 : Int))) (
                   .leaf false
                  ) (
                   (.br (!decide (v2349 = v2341.1)) (
                    .leaf false
                   ) (
                    .leaf true
                   ))
                  )))
                 ))
                )))
               ) (fun v2347 =>
                (.call (laws_eqInt64S_g v2347 ([] : List Int)) fun v2350 =>
                (.br (!v2350) (
                 .leaf false
                ) (
                 (.br (!(true == false)) (
                  .leaf false
                 ) (
                  (.call (laws_heldInt64S_g v2341.2 (1 : Int)) fun v2351 =>
                  (.br (decide (v2351 < (0 : Int))) (
                   .leaf false
                  ) (
                   (.br (!decide (v2351 = v2341.1)) (
                    .leaf false
                   ) (
                    .leaf true
                   ))
                  )))
                 ))
                )))
               )))))
              ))
             )))))
            ))
           )))
          ))))))
         ))))
        ))))
       ))
      )))
     )))))
    ) (fun v1029 =>
     (.call (laws_toWhole_g v1 v2 v3) fun v2352 =>
     (.call (laws_toInt64S_g v4) fun v2353 =>
     (.call (impl_SolveOver_g v2352.1 v2352.2.1 v2352.2.2 v2353 v5) fun v2354 =>
     (.sum v2354 (fun v2355 =>
      (.call (laws_eqInt64S_g ([] : List Int) v1029) fun v2357 =>
      (.br (!v2357) (
       .leaf false
      ) (
       (.br (!(false == true)) (
        .leaf false
       ) (
        (.call (laws_toWhole_g v1 v2 v3) fun v2358 =>
        (.call (laws_eqWhole_g v2352.1 v2352.2.1 v2352.2.2 v2358.1 v2358.2.1 v2358.2.2) fun v2359 =>
        (.br (!v2359) (
         .leaf false
        ) (
         (.call (laws_toInt64S_g v4) fun v2360 =>
         (.call (laws_eqInt64S_g v2353 v2360) fun v2361 =>
         (.br (!v2361) (
          .leaf false
         ) (
          (.call (laws_markWhole_g v2352.2.2 (1 : Int)) fun v2362 =>
          (.grd (decide (v2362.2.length = v2352.2.2.length)) <|
          (.call (laws_markInt64S_g v2353 v2362.1) fun v2363 =>
          (.grd (decide (v2363.2.length = v2353.length)) <|
          (.br (decide (v2363.1 < (0 : Int))) (
           .leaf false
          ) (
           (.call (laws_eqInt64S_g ([] : List Int) v1029) fun v2364 =>
           (.br (!v2364) (
            .leaf false
           ) (
            (.br (!(false == true)) (
             .leaf false
            ) (
             (.call (laws_markInt64S_i1_g (1 : Int)) fun v2365 =>
             (.call (laws_heldInt64S_g ([] : List Int) (1 : Int)) fun v2366 =>
             (.br (decide (v2366 < (0 : Int))) (
              .leaf false
             ) (
              (.br (!decide (v2366 = v2365)) (
               .leaf false
              ) (
               (.call (laws_toWhole_g v1 v2 v3) fun v2367 =>
               (.call (laws_toInt64S_g v4) fun v2368 =>
               (.call (impl_SolveOver_g v2367.1 v2367.2.1 v2367.2.2 v2368 v5) fun v2369 =>
               (.sum v2369 (fun v2370 =>
                (.call (laws_eqInt64S_g ([] : List Int) v1029) fun v2372 =>
                (.br (!v2372) (
                 .leaf false
                ) (
                 (.br (!(false == true)) (
                  .leaf false
                 ) (
                  (.call (laws_heldInt64S_g ([] : List Int) (1 : Int)) fun v2373 =>
                  (.br (decide (v2373 < (0 : Int))) (
                   .leaf false
                  ) (
                   (.br (!decide (v2373 = v2365)) (
                    .leaf false
                   ) (
                    .leaf true
                   ))
                  )))
                 ))
                )))
               ) (fun v2371 =>
                (.call (laws_eqInt64S_g v2371 v1029) fun v2374 =>
                (.br (!v2374) (
                 .leaf false
                ) (
                 (.br (!(true == true)) (
                  .leaf false
                 ) (
                  (.call (laws_heldInt64S_g ([] : List Int) (1 : Int)) fun v2375 =>
                  (.br (decide (v2375 < (0 : Int))) (
                   .leaf false
                  ) (
                   (.br (!decide (v2375 = v2365)) (
                    .leaf false
                   ) (
                    .leaf true
                   ))
                  )))
                 ))
                )))
               )))))
              ))
             ))))
            ))
           )))
          ))))))
         ))))
        ))))
       ))
      )))
     ) (fun v2356 =>
      (.call (laws_eqInt64S_g v2356 v1029) fun v2376 =>
      (.br (!v2376) (
       .leaf false
      ) (
       (.br (!(true == true)) (
        .leaf false
       ) (
        (.call (laws_toWhole_g v1 v2 v3) fun v2377 =>
        (.call (laws_eqWhole_g v2352.1 v2352.2.1 v2352.2.2 v2377.1 v2377.2.1 v2377.2.2) fun v2378 =>
        (.br (!v2378) (
         .leaf false
        ) (
         (.call (laws_toInt64S_g v4) fun v2379 =>
         (.call (laws_eqInt64S_g v2353 v2379) fun v2380 =>
         (.br (!v2380) (
          .leaf false
         ) (
          (.call (laws_markWhole_g v2352.2.2 (1 : Int)) fun v2381 =>
          (.grd (decide (v2381.2.length = v2352.2.2.length)) <|
          (.call (laws_markInt64S_g v2353 v2381.1) fun v2382 =>
          (.grd (decide (v2382.2.length = v2353.length)) <|
          (.br (decide (v2382.1 < (0 : Int))) (
           .leaf false
          ) (
           (.call (laws_eqInt64S_g v2356 v1029) fun v2383 =>
           (.br (!v2383) (
            .leaf false
           ) (
            (.br (!(true == true)) (
             .leaf false
            ) (
             (.call (laws_markInt64S_g v2356 (1 : Int)) fun v2384 =>
             (.grd (decide (v2384.2.length = v2356.length)) <|
             (.call (laws_heldInt64S_g v2384.2 (1 : Int)) fun v2385 =>
             (.br (decide (v2385 < (0 : Int))) (
              .leaf false
             ) (
              (.br (!decide (v2385 = v2384.1)) (
               .leaf false
              ) (
               (.call (laws_toWhole_g v1 v2 v3) fun v2386 =>
               (.call (laws_toInt64S_g v4) fun v2387 =>
               (.call (impl_SolveOver_g v2386.1 v2386.2.1 v2386.2.2 v2387 v5) fun v2388 =>
               (.sum v2388 (fun v2389 =>
                (.call (laws_eqInt64S_g ([] : List Int) v1029) fun v2391 =>
                (.br (!v2391) (
                 .leaf false
                ) (
                 (.br (!(false == true)) (
                  .leaf false
                 ) (
                  (.call (laws_heldInt64S_g v2384.2 (1 : Int)) fun v2392 =>
                  (.br (decide (v2392 < (0 : Int))) (
                   .leaf false
                  ) (
                   (.br (!decide (v2392 = v2384.1)) (
                    .leaf false
                   ) (
                    .leaf true
                   ))
                  )))
                 ))
                )))
               ) (fun v2390 =>
                (.call (laws_eqInt64S_g v2390 v1029) fun v2393 =>
                (.br (!v2393) (
                 .leaf false
                ) (
                 (.br (!(true == true)) (
                  .leaf false
                 ) (
                  (.call (laws_heldInt64S_g v2384.2 (1 : Int)) fun v2394 =>
                  (.br (decide (v2394 < (0 : Int))) (
                   .leaf false
                  ) (
                   (.br (!decide (v2394 = v2384.1)) (
                    .leaf false
                   ) (
                    .leaf true
                   ))
                  )))
                 ))
                )))
               )))))
              ))
             )))))
            ))
           )))
          ))))))
         ))))
        ))))
       ))
      )))
     )))))
    )))))
   ))
  ))

noncomputable def laws_FnExactSolveOver_g (v1 : Int) (v2 : Int) (v3 : List Int) (v4 : List Int) (v5 : Int) : Option (Bool) := (laws_FnExactSolveOver_T v1 v2 v3 v4 v5).run
def laws_FnExactSolveOver_enc (v1 : Int) (v2 : Int) (v3 : List Int) (v4 : List Int) (v5 : Int) (y : Bool) : Rs := (.bool y, [])
theorem laws_FnExactSolveOver_den (v1 : Int) (v2 : Int) (v3 : List Int) (v4 : List Int) (v5 : Int) : (den TT (tabD laws_FnExactSolveOver_tab) (tabM laws_FnExactSolveOver_tab) (laws_FnExactSolveOver_LO v1 v2 v3 v4 v5) (codeOf Try.f5) ([.agg [.int .i64 v1, .int .i64 v2, .bslc (BR.root 0) (.i64 v3)], .bslc (BR.root 1) (.i64 v4), .int .i64 v5] ++ List.replicate (Try.f5.ntmps - ([.agg [.int .i64 v1, .int .i64 v2, .bslc (BR.root 0) (.i64 v3)], .bslc (BR.root 1) (.i64 v4), .int .i64 v5] : List DV).length) .undef) []).bind (retD TT Try.f5.results.toList 0) = (laws_FnExactSolveOver_T v1 v2 v3 v4 v5).bind fun y => .leaf (laws_FnExactSolveOver_enc v1 v2 v3 v4 v5 y) := by kernel_rfl
theorem laws_FnExactSolveOver_fn (v1 : Int) (v2 : Int) (v3 : List Int) (v4 : List Int) (v5 : Int) (F : Fr) (h0 : St F [] F.H0) (hA : DVs.Ok F [] [.agg [.int .i64 v1, .int .i64 v2, .bslc (BR.root 0) (.i64 v3)], .bslc (BR.root 1) (.i64 v4), .int .i64 v5]) {y : Bool} (hy : laws_FnExactSolveOver_g v1 v2 v3 v4 v5 = some y) : ∃ F' H', Fwd 0 F F' [] (laws_FnExactSolveOver_enc v1 v2 v3 v4 v5 y).2 ∧ FnOk Try.prog 5 (DVs.av F [.agg [.int .i64 v1, .int .i64 v2, .bslc (BR.root 0) (.i64 v3)], .bslc (BR.root 1) (.i64 v4), .int .i64 v5]) F.H0 ((laws_FnExactSolveOver_enc v1 v2 v3 v4 v5 y).1.av F') H' ∧ St F' (laws_FnExactSolveOver_enc v1 v2 v3 v4 v5 y).2 H' ∧ (laws_FnExactSolveOver_enc v1 v2 v3 v4 v5 y).1.Ok F' (laws_FnExactSolveOver_enc v1 v2 v3 v4 v5 y).2 :=
  fn_fin tok laws_FnExactSolveOver_hO mixed Try.func5 Try.call5 (by kernel_rfl) (LoopsOk_eq (l := []) (by kernel_rfl) trivial) (laws_FnExactSolveOver_den v1 v2 v3 v4 v5) hy h0 hA
noncomputable def laws_FnExactSolveOver_F : DFn := fun args L =>
  match args with
  | [.agg [.int .i64 v1, .int .i64 v2, a1], a2, .int .i64 v5] =>
    optT (rowI64 L a1) fun v3 =>
    optT (rowI64 L a2) fun v4 =>
    .call (laws_FnExactSolveOver_g v1 v2 v3 v4 v5) fun y => .leaf (.bool y, L)
  | _ => .fail
theorem laws_FnExactSolveOver_Fok : COk Try.prog 5 laws_FnExactSolveOver_F true := by
  intro F L H args r L' hs ha hr
  unfold laws_FnExactSolveOver_F at hr
  split at hr
  · rename_i v1 v2 a1 a2 v5
    obtain ⟨v3, hv3, hr⟩ := optT_run hr
    obtain ⟨v4, hv4, hr⟩ := optT_run hr
    simp only [Tree.run] at hr
    obtain ⟨y, hy, hr⟩ := Option.bind_eq_some_iff.1 hr
    simp only [Tree.run, Option.some.injEq, Prod.mk.injEq] at hr
    obtain ⟨rfl, rfl⟩ := hr
    exact call_ok0 hs (fun k => (([a1.av F, a2.av F] : List AV)[k]?).getD .top) [.agg [.int .i64 v1, .int .i64 v2, a1], a2, .int .i64 v5] [.agg [.int .i64 v1, .int .i64 v2, .bslc (BR.root 0) (.i64 v3)], .bslc (BR.root 1) (.i64 v4), .int .i64 v5] (fun F' h0 hi hρ => ⟨by simp [DVs.av, DV.av, BR.av, hρ], laws_FnExactSolveOver_fn v1 v2 v3 v4 v5 F' (st_nil hi) ⟨⟨trivial, trivial, bslc_ok hi (by rw [h0, hρ]; exact rowI64_ok hs (DVs.okAt (DVs.okAt ha 0 rfl) 2 rfl) hv3), trivial⟩, bslc_ok hi (by rw [h0, hρ]; exact rowI64_ok hs (DVs.okAt ha 1 rfl) hv4), trivial, trivial⟩ hy⟩) rfl
  · cases hr
/-! laws.szInt64S -/
noncomputable def laws_szInt64S_len_LO (v2404 : Nat) (v2405 : Int) : LOr := fun id e L =>
  match id with
  | _ => .fail
noncomputable def laws_szInt64S_len_tab : List (FuncId × DFn × Bool) := []
theorem laws_szInt64S_len_hO : OrcOk Try.prog (tabD laws_szInt64S_len_tab) (tabM laws_szInt64S_len_tab) := tabD_nil _
noncomputable def laws_szInt64S_len_T (v2404 : Nat) (v2405 : Int) : Tree (Int) :=
  (.br (decide (IntKind.i64.wrap (v2405 - ((v2404 : Nat) : Int)) < (0 : Int))) (
   .leaf (-1 : Int)
  ) (
   .leaf (IntKind.i64.wrap (v2405 - ((v2404 : Nat) : Int)))
  ))

noncomputable def laws_szInt64S_len_g (v2404 : Nat) (v2405 : Int) : Option (Int) := (laws_szInt64S_len_T v2404 v2405).run
def laws_szInt64S_len_enc (v2404 : Nat) (v2405 : Int) (y : Int) : Rs := (.int .i64 y, [])
theorem laws_szInt64S_len_den (v2404 : Nat) (v2405 : Int) : (den TT (tabD laws_szInt64S_len_tab) (tabM laws_szInt64S_len_tab) (laws_szInt64S_len_LO v2404 v2405) (codeOf Try.f59) ([.hslc (BR.root 0) v2404, .int .i64 v2405] ++ List.replicate (Try.f59.ntmps - ([.hslc (BR.root 0) v2404, .int .i64 v2405] : List DV).length) .undef) []).bind (retD TT Try.f59.results.toList 0) = (laws_szInt64S_len_T v2404 v2405).bind fun y => .leaf (laws_szInt64S_len_enc v2404 v2405 y) := by kernel_rfl
theorem laws_szInt64S_len_fn (v2404 : Nat) (v2405 : Int) (F : Fr) (h0 : St F [] F.H0) (hA : DVs.Ok F [] [.hslc (BR.root 0) v2404, .int .i64 v2405]) {y : Int} (hy : laws_szInt64S_len_g v2404 v2405 = some y) : ∃ F' H', Fwd 0 F F' [] (laws_szInt64S_len_enc v2404 v2405 y).2 ∧ FnOk Try.prog 59 (DVs.av F [.hslc (BR.root 0) v2404, .int .i64 v2405]) F.H0 ((laws_szInt64S_len_enc v2404 v2405 y).1.av F') H' ∧ St F' (laws_szInt64S_len_enc v2404 v2405 y).2 H' ∧ (laws_szInt64S_len_enc v2404 v2405 y).1.Ok F' (laws_szInt64S_len_enc v2404 v2405 y).2 :=
  fn_fin tok laws_szInt64S_len_hO mixed Try.func59 Try.call59 (by kernel_rfl) (LoopsOk_eq (l := []) (by kernel_rfl) trivial) (laws_szInt64S_len_den v2404 v2405) hy h0 hA
def laws_szInt64S_len_v (v2404 : Nat) (v2405 : Int) : Int :=
  if (decide (IntKind.i64.wrap (v2405 - ((v2404 : Nat) : Int)) < (0 : Int))) = true then (
   (-1 : Int)
  ) else (
   IntKind.i64.wrap (v2405 - ((v2404 : Nat) : Int))
  )
theorem laws_szInt64S_len_tot (v2404 : Nat) (v2405 : Int) : laws_szInt64S_len_g v2404 v2405 = some (laws_szInt64S_len_v v2404 v2405) := by
  unfold laws_szInt64S_len_g laws_szInt64S_len_T laws_szInt64S_len_v
  simp only [Tree.run]
  repeat' (first | rfl | split)
noncomputable def laws_szInt64S_len_F : DFn := fun args L =>
  match args with
  | [a1, .int .i64 v2405] =>
    optT (lenV L a1) fun v2404 =>
    .leaf (.int .i64 (laws_szInt64S_len_v v2404 v2405), L)
  | _ => .fail
theorem laws_szInt64S_len_Fok : COk Try.prog 59 laws_szInt64S_len_F true := by
  intro F L H args r L' hs ha hr
  unfold laws_szInt64S_len_F at hr
  split at hr
  · rename_i a1 v2405
    obtain ⟨v2404, hv2404, hr⟩ := optT_run hr
    have hy := laws_szInt64S_len_tot v2404 v2405
    generalize laws_szInt64S_len_v v2404 v2405 = y at hy hr
    simp only [Tree.run, Option.some.injEq, Prod.mk.injEq] at hr
    obtain ⟨rfl, rfl⟩ := hr
    exact call_ok0 hs (fun k => (([a1.av F] : List AV)[k]?).getD .top) [a1, .int .i64 v2405] [.hslc (BR.root 0) v2404, .int .i64 v2405] (fun F' h0 hi hρ => ⟨by simp [DVs.av, DV.av, BR.av, hρ], laws_szInt64S_len_fn v2404 v2405 F' (st_nil hi) ⟨hslc_ok hi (by rw [h0, hρ]; exact lenV_ok hs (DVs.okAt ha 0 rfl) hv2404), trivial, trivial⟩ hy⟩) rfl
  · cases hr
/-! laws.szWhole -/
noncomputable def laws_szWhole_len_LO (v2400 : Int) (v2401 : Int) (v2402 : Nat) (v2403 : Int) : LOr := fun id e L =>
  match id with
  | _ => .fail
noncomputable def laws_szWhole_len_tab : List (FuncId × DFn × Bool) := [(59, laws_szInt64S_len_F, true)]
theorem laws_szWhole_len_hO : OrcOk Try.prog (tabD laws_szWhole_len_tab) (tabM laws_szWhole_len_tab) := tabD_cons laws_szInt64S_len_Fok (tabD_nil _)
noncomputable def laws_szWhole_len_T (v2402 : Nat) (v2403 : Int) : Tree (Int) :=
  (.br (decide ((laws_szInt64S_len_v v2402 v2403) < (0 : Int))) (
   .leaf (-1 : Int)
  ) (
   .leaf (laws_szInt64S_len_v v2402 v2403)
  ))

noncomputable def laws_szWhole_len_g (v2402 : Nat) (v2403 : Int) : Option (Int) := (laws_szWhole_len_T v2402 v2403).run
def laws_szWhole_len_enc (v2400 : Int) (v2401 : Int) (v2402 : Nat) (v2403 : Int) (y : Int) : Rs := (.int .i64 y, [])
theorem laws_szWhole_len_den (v2400 : Int) (v2401 : Int) (v2402 : Nat) (v2403 : Int) : (den TT (tabD laws_szWhole_len_tab) (tabM laws_szWhole_len_tab) (laws_szWhole_len_LO v2400 v2401 v2402 v2403) (codeOf Try.f12) ([.agg [.int .i64 v2400, .int .i64 v2401, .hslc (BR.root 0) v2402], .int .i64 v2403] ++ List.replicate (Try.f12.ntmps - ([.agg [.int .i64 v2400, .int .i64 v2401, .hslc (BR.root 0) v2402], .int .i64 v2403] : List DV).length) .undef) []).bind (retD TT Try.f12.results.toList 0) = (laws_szWhole_len_T v2402 v2403).bind fun y => .leaf (laws_szWhole_len_enc v2400 v2401 v2402 v2403 y) := by kernel_rfl
theorem laws_szWhole_len_fn (v2400 : Int) (v2401 : Int) (v2402 : Nat) (v2403 : Int) (F : Fr) (h0 : St F [] F.H0) (hA : DVs.Ok F [] [.agg [.int .i64 v2400, .int .i64 v2401, .hslc (BR.root 0) v2402], .int .i64 v2403]) {y : Int} (hy : laws_szWhole_len_g v2402 v2403 = some y) : ∃ F' H', Fwd 0 F F' [] (laws_szWhole_len_enc v2400 v2401 v2402 v2403 y).2 ∧ FnOk Try.prog 12 (DVs.av F [.agg [.int .i64 v2400, .int .i64 v2401, .hslc (BR.root 0) v2402], .int .i64 v2403]) F.H0 ((laws_szWhole_len_enc v2400 v2401 v2402 v2403 y).1.av F') H' ∧ St F' (laws_szWhole_len_enc v2400 v2401 v2402 v2403 y).2 H' ∧ (laws_szWhole_len_enc v2400 v2401 v2402 v2403 y).1.Ok F' (laws_szWhole_len_enc v2400 v2401 v2402 v2403 y).2 :=
  fn_fin tok laws_szWhole_len_hO mixed Try.func12 Try.call12 (by kernel_rfl) (LoopsOk_eq (l := []) (by kernel_rfl) trivial) (laws_szWhole_len_den v2400 v2401 v2402 v2403) hy h0 hA
def laws_szWhole_len_v (v2402 : Nat) (v2403 : Int) : Int :=
  if (decide ((laws_szInt64S_len_v v2402 v2403) < (0 : Int))) = true then (
   (-1 : Int)
  ) else (
   (laws_szInt64S_len_v v2402 v2403)
  )
theorem laws_szWhole_len_tot (v2402 : Nat) (v2403 : Int) : laws_szWhole_len_g v2402 v2403 = some (laws_szWhole_len_v v2402 v2403) := by
  unfold laws_szWhole_len_g laws_szWhole_len_T laws_szWhole_len_v
  simp only [Tree.run]
  repeat' (first | rfl | split)
noncomputable def laws_szWhole_len_F : DFn := fun args L =>
  match args with
  | [.agg [.int .i64 v2400, .int .i64 v2401, a1], .int .i64 v2403] =>
    optT (lenV L a1) fun v2402 =>
    .leaf (.int .i64 (laws_szWhole_len_v v2402 v2403), L)
  | _ => .fail
theorem laws_szWhole_len_Fok : COk Try.prog 12 laws_szWhole_len_F true := by
  intro F L H args r L' hs ha hr
  unfold laws_szWhole_len_F at hr
  split at hr
  · rename_i v2400 v2401 a1 v2403
    obtain ⟨v2402, hv2402, hr⟩ := optT_run hr
    have hy := laws_szWhole_len_tot v2402 v2403
    generalize laws_szWhole_len_v v2402 v2403 = y at hy hr
    simp only [Tree.run, Option.some.injEq, Prod.mk.injEq] at hr
    obtain ⟨rfl, rfl⟩ := hr
    exact call_ok0 hs (fun k => (([a1.av F] : List AV)[k]?).getD .top) [.agg [.int .i64 v2400, .int .i64 v2401, a1], .int .i64 v2403] [.agg [.int .i64 v2400, .int .i64 v2401, .hslc (BR.root 0) v2402], .int .i64 v2403] (fun F' h0 hi hρ => ⟨by simp [DVs.av, DV.av, BR.av, hρ], laws_szWhole_len_fn v2400 v2401 v2402 v2403 F' (st_nil hi) ⟨⟨trivial, trivial, hslc_ok hi (by rw [h0, hρ]; exact lenV_ok hs (DVs.okAt (DVs.okAt ha 0 rfl) 2 rfl) hv2402), trivial⟩, trivial, trivial⟩ hy⟩) rfl
  · cases hr
/-! laws.FnExactSolveOver -/
noncomputable def laws_FnExactSolveOver_len_LO (v2395 : Int) (v2396 : Int) (v2397 : Nat) (v2398 : Nat) (v2399 : Int) : LOr := fun id e L =>
  match id with
  | _ => .fail
noncomputable def laws_FnExactSolveOver_len_tab : List (FuncId × DFn × Bool) := [(12, laws_szWhole_len_F, true)]
theorem laws_FnExactSolveOver_len_hO : OrcOk Try.prog (tabD laws_FnExactSolveOver_len_tab) (tabM laws_FnExactSolveOver_len_tab) := tabD_cons laws_szWhole_len_Fok (tabD_nil _)
noncomputable def laws_FnExactSolveOver_len_T (v2397 : Nat) (v2398 : Nat) : Tree (Bool) :=
  (.br (decide ((1048576 : Int) < ((v2398 : Nat) : Int))) (
   .leaf true
  ) (
   (.br (decide ((laws_szWhole_len_v v2397 (1048576 : Int)) < (0 : Int))) (
    .leaf true
   ) (
    .fail
   ))
  ))

noncomputable def laws_FnExactSolveOver_len_g (v2397 : Nat) (v2398 : Nat) : Option (Bool) := (laws_FnExactSolveOver_len_T v2397 v2398).run
def laws_FnExactSolveOver_len_enc (v2395 : Int) (v2396 : Int) (v2397 : Nat) (v2398 : Nat) (v2399 : Int) (y : Bool) : Rs := (.bool y, [])
theorem laws_FnExactSolveOver_len_den (v2395 : Int) (v2396 : Int) (v2397 : Nat) (v2398 : Nat) (v2399 : Int) : (den TT (tabD laws_FnExactSolveOver_len_tab) (tabM laws_FnExactSolveOver_len_tab) (laws_FnExactSolveOver_len_LO v2395 v2396 v2397 v2398 v2399) (codeOf Try.f5) ([.agg [.int .i64 v2395, .int .i64 v2396, .hslc (BR.root 0) v2397], .hslc (BR.root 1) v2398, .int .i64 v2399] ++ List.replicate (Try.f5.ntmps - ([.agg [.int .i64 v2395, .int .i64 v2396, .hslc (BR.root 0) v2397], .hslc (BR.root 1) v2398, .int .i64 v2399] : List DV).length) .undef) []).bind (retD TT Try.f5.results.toList 0) = (laws_FnExactSolveOver_len_T v2397 v2398).bind fun y => .leaf (laws_FnExactSolveOver_len_enc v2395 v2396 v2397 v2398 v2399 y) := by kernel_rfl
theorem laws_FnExactSolveOver_len_fn (v2395 : Int) (v2396 : Int) (v2397 : Nat) (v2398 : Nat) (v2399 : Int) (F : Fr) (h0 : St F [] F.H0) (hA : DVs.Ok F [] [.agg [.int .i64 v2395, .int .i64 v2396, .hslc (BR.root 0) v2397], .hslc (BR.root 1) v2398, .int .i64 v2399]) {y : Bool} (hy : laws_FnExactSolveOver_len_g v2397 v2398 = some y) : ∃ F' H', Fwd 0 F F' [] (laws_FnExactSolveOver_len_enc v2395 v2396 v2397 v2398 v2399 y).2 ∧ FnOk Try.prog 5 (DVs.av F [.agg [.int .i64 v2395, .int .i64 v2396, .hslc (BR.root 0) v2397], .hslc (BR.root 1) v2398, .int .i64 v2399]) F.H0 ((laws_FnExactSolveOver_len_enc v2395 v2396 v2397 v2398 v2399 y).1.av F') H' ∧ St F' (laws_FnExactSolveOver_len_enc v2395 v2396 v2397 v2398 v2399 y).2 H' ∧ (laws_FnExactSolveOver_len_enc v2395 v2396 v2397 v2398 v2399 y).1.Ok F' (laws_FnExactSolveOver_len_enc v2395 v2396 v2397 v2398 v2399 y).2 :=
  fn_fin tok laws_FnExactSolveOver_len_hO mixed Try.func5 Try.call5 (by kernel_rfl) (LoopsOk_eq (l := []) (by kernel_rfl) trivial) (laws_FnExactSolveOver_len_den v2395 v2396 v2397 v2398 v2399) hy h0 hA
noncomputable def laws_FnExactSolveOver_len_F : DFn := fun args L =>
  match args with
  | [.agg [.int .i64 v2395, .int .i64 v2396, a1], a2, .int .i64 v2399] =>
    optT (lenV L a1) fun v2397 =>
    optT (lenV L a2) fun v2398 =>
    .call (laws_FnExactSolveOver_len_g v2397 v2398) fun y => .leaf (.bool y, L)
  | _ => .fail
theorem laws_FnExactSolveOver_len_Fok : COk Try.prog 5 laws_FnExactSolveOver_len_F true := by
  intro F L H args r L' hs ha hr
  unfold laws_FnExactSolveOver_len_F at hr
  split at hr
  · rename_i v2395 v2396 a1 a2 v2399
    obtain ⟨v2397, hv2397, hr⟩ := optT_run hr
    obtain ⟨v2398, hv2398, hr⟩ := optT_run hr
    simp only [Tree.run] at hr
    obtain ⟨y, hy, hr⟩ := Option.bind_eq_some_iff.1 hr
    simp only [Tree.run, Option.some.injEq, Prod.mk.injEq] at hr
    obtain ⟨rfl, rfl⟩ := hr
    exact call_ok0 hs (fun k => (([a1.av F, a2.av F] : List AV)[k]?).getD .top) [.agg [.int .i64 v2395, .int .i64 v2396, a1], a2, .int .i64 v2399] [.agg [.int .i64 v2395, .int .i64 v2396, .hslc (BR.root 0) v2397], .hslc (BR.root 1) v2398, .int .i64 v2399] (fun F' h0 hi hρ => ⟨by simp [DVs.av, DV.av, BR.av, hρ], laws_FnExactSolveOver_len_fn v2395 v2396 v2397 v2398 v2399 F' (st_nil hi) ⟨⟨trivial, trivial, hslc_ok hi (by rw [h0, hρ]; exact lenV_ok hs (DVs.okAt (DVs.okAt ha 0 rfl) 2 rfl) hv2397), trivial⟩, hslc_ok hi (by rw [h0, hρ]; exact lenV_ok hs (DVs.okAt ha 1 rfl) hv2398), trivial, trivial⟩ hy⟩) rfl
  · cases hr
end Go.Proofs.Ytimlecagkbbnpaa.AM
