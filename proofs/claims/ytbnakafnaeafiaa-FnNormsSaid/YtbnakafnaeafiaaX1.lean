/- Functions: what they come to. -/
import Derived.Test.YtbnakafnaeafiaaX0
set_option maxRecDepth 100000
set_option maxHeartbeats 4000000
set_option linter.unusedSimpArgs false
set_option linter.unusedVariables false
namespace Go.Proofs.Ytbnakafnaeafiaa.AM
open Go.Proofs
/-! laws.FnNorms -/
noncomputable def laws_FnNorms_l0_T (v414 v415 v416 : Nat) (v419 v420 : Int) (v421 v422 v423 : List Nat) (s : Nat × Int) : Tree ((Nat × Int) ⊕ (Nat)) :=
  (.br (decide (s.2 < (((v423).length : Nat) : Int))) (
  (.grd (inb s.2 ((v423).length)) <|
  .leaf (.inl (fmaxA .f64 s.1 (laws_r8Gap_v (wid (nth v423 (Int.toNat s.2))) (0 : Nat)), IntKind.i64.wrap (s.2 + (1 : Int)))))
  ) (
  .leaf (.inr s.1)
  ))

noncomputable def laws_FnNorms_l0_g (v414 v415 v416 : Nat) (v419 v420 : Int) (v421 v422 v423 : List Nat) (s0 : Nat × Int) : Option (Nat) := whileM (fun s => (laws_FnNorms_l0_T v414 v415 v416 v419 v420 v421 v422 v423 s).run) s0
def laws_FnNorms_l0_E (v1 v2 : List Int) (v414 v415 v416 : Nat) (v419 v420 : Int) (v421 v422 v423 : List Nat) (s : Nat × Int) : Sd := ([Z,.bslc (BR.root 1) (.u8 v2),Z,Z,Z,.ptr 0 (0 : Nat) 0 (3 : Nat),.flt .f32 v414,Z,.flt .f32 v415,Z,.flt .f32 v416,Z,Z,Z,Z,Z,.own 1 0 ((v421).length),.own 2 0 ((v422).length),Z,.flt .f64 s.1,.int .i64 s.2,Z,Z,Z,Z,Z,Z,Z,Z,Z,Z,Z,Z,Z,Z,Z,Z,Z,Z,Z,Z,Z,Z,Z,Z,Z,Z,Z,Z,Z,Z,Z,Z,Z,Z,Z,Z,Z,Z,Z,Z,Z,Z,Z,Z,Z,Z,Z,Z,Z,Z,Z,Z,Z,Z,Z,Z,Z,Z,Z,Z,Z,Z,Z,Z,Z,Z,Z,Z,Z,Z,Z,Z,Z,Z,Z,Z,Z,Z,Z,Z,Z,Z,Z,Z,Z,Z,Z,Z,Z,Z,Z,Z,Z,Z,Z,Z,Z,Z,Z,Z,Z,Z,Z,Z,Z,Z,Z,Z,Z,Z,Z,Z,Z,Z,Z,Z,Z,Z,Z,Z,Z,Z,Z,Z,Z,Z,Z,Z,Z,Z,Z,Z,Z,Z,Z,Z,Z,Z,Z,Z,Z,Z,Z,Z,Z,Z,Z,Z,Z,Z,Z,Z,Z,Z,Z,Z,Z,Z,Z,Z,Z,Z,Z,Z,Z,Z,Z,Z,Z,Z,Z,Z,Z,Z,Z,Z,Z,Z,Z,Z,Z,Z,Z,Z,Z,Z,Z,Z,Z,Z,Z,Z,Z,Z,Z,Z,Z,Z,Z,Z,Z,Z,Z,Z,Z,Z,Z,Z,Z,Z,Z,Z,Z,Z,Z,Z,Z,Z,Z,Z,Z,Z,Z,Z,Z,Z,Z,Z,Z,Z,Z,Z,Z,Z,Z,Z,Z,Z,Z,Z,Z,Z,Z,Z,Z,Z,Z,Z,Z,Z,Z,Z,Z,Z,Z,Z,Z,Z,Z,Z,Z,Z,Z,Z,Z,Z,Z,Z,Z,Z,Z,Z,Z,Z,Z,Z,Z,Z,Z,Z,Z,Z,Z,Z,Z,Z,Z,Z,Z,Z,Z,Z,Z,Z,Z,Z,Z,Z,Z,Z,Z,Z,Z,Z,Z,Z,Z,Z,Z,Z,Z,Z,Z,Z,Z,Z,Z,Z,Z,Z,Z,Z,Z,Z,Z,Z,Z,Z,Z,Z,Z,Z,Z,Z,Z,Z,Z,Z,Z,Z,Z,Z,Z,Z,Z,Z,Z,Z,Z,Z,Z,Z,Z,Z,Z,Z,Z,Z,Z,Z], [.gen [.int .i64 v419, .int .i64 v420, .own 3 0 ((v423).length)] false 0, .row (.f32 v421) 0, .row (.f32 v422) 0, .row (.f32 v423) 0])
def laws_FnNorms_l0_X (v1 v2 : List Int) (v414 v415 v416 : Nat) (v419 v420 : Int) (v421 v422 v423 : List Nat) (x : Nat) : Out := (.normal, [Z,.bslc (BR.root 1) (.u8 v2),Z,Z,Z,.ptr 0 (0 : Nat) 0 (3 : Nat),.flt .f32 v414,Z,.flt .f32 v415,Z,.flt .f32 v416,Z,Z,Z,Z,Z,.own 1 0 ((v421).length),.own 2 0 ((v422).length),Z,.flt .f64 x,Z,Z,Z,Z,Z,Z,Z,Z,Z,Z,Z,Z,Z,Z,Z,Z,Z,Z,Z,Z,Z,Z,Z,Z,Z,Z,Z,Z,Z,Z,Z,Z,Z,Z,Z,Z,Z,Z,Z,Z,Z,Z,Z,Z,Z,Z,Z,Z,Z,Z,Z,Z,Z,Z,Z,Z,Z,Z,Z,Z,Z,Z,Z,Z,Z,Z,Z,Z,Z,Z,Z,Z,Z,Z,Z,Z,Z,Z,Z,Z,Z,Z,Z,Z,Z,Z,Z,Z,Z,Z,Z,Z,Z,Z,Z,Z,Z,Z,Z,Z,Z,Z,Z,Z,Z,Z,Z,Z,Z,Z,Z,Z,Z,Z,Z,Z,Z,Z,Z,Z,Z,Z,Z,Z,Z,Z,Z,Z,Z,Z,Z,Z,Z,Z,Z,Z,Z,Z,Z,Z,Z,Z,Z,Z,Z,Z,Z,Z,Z,Z,Z,Z,Z,Z,Z,Z,Z,Z,Z,Z,Z,Z,Z,Z,Z,Z,Z,Z,Z,Z,Z,Z,Z,Z,Z,Z,Z,Z,Z,Z,Z,Z,Z,Z,Z,Z,Z,Z,Z,Z,Z,Z,Z,Z,Z,Z,Z,Z,Z,Z,Z,Z,Z,Z,Z,Z,Z,Z,Z,Z,Z,Z,Z,Z,Z,Z,Z,Z,Z,Z,Z,Z,Z,Z,Z,Z,Z,Z,Z,Z,Z,Z,Z,Z,Z,Z,Z,Z,Z,Z,Z,Z,Z,Z,Z,Z,Z,Z,Z,Z,Z,Z,Z,Z,Z,Z,Z,Z,Z,Z,Z,Z,Z,Z,Z,Z,Z,Z,Z,Z,Z,Z,Z,Z,Z,Z,Z,Z,Z,Z,Z,Z,Z,Z,Z,Z,Z,Z,Z,Z,Z,Z,Z,Z,Z,Z,Z,Z,Z,Z,Z,Z,Z,Z,Z,Z,Z,Z,Z,Z,Z,Z,Z,Z,Z,Z,Z,Z,Z,Z,Z,Z,Z,Z,Z,Z,Z,Z,Z,Z,Z,Z,Z,Z,Z,Z,Z,Z,Z,Z,Z,Z,Z,Z,Z,Z,Z,Z,Z,Z,Z,Z,Z,Z,Z,Z,Z,Z,Z,Z,Z], [.gen [.int .i64 v419, .int .i64 v420, .own 3 0 ((v423).length)] false 0, .row (.f32 v421) 0, .row (.f32 v422) 0, .row (.f32 v423) 0])
def laws_FnNorms_l0_kill : List Nat := KL true [1,1,3,2,1,1,1,1,5,2,1,2,360]
def laws_FnNorms_l0_nx : Exit → List Nat
  | .exit 0 => KL true [1,1,3,2,1,1,1,1,5,2,1,1,361]
  | .ret => KL true [4,1,376]
  | _ => []
noncomputable def laws_FnNorms_l2_T (v447 v448 v449 v450 : Nat) (v453 v454 : Int) (v455 v456 v457 : List Nat) (s : Nat × Int) : Tree ((Nat × Int) ⊕ (Nat)) :=
  (.br (decide (s.2 < (((v455).length : Nat) : Int))) (
  (.grd (inb s.2 ((v455).length)) <|
  .leaf (.inl (fmaxA .f64 s.1 (laws_r8Gap_v (wid (nth v455 (Int.toNat s.2))) (0 : Nat)), IntKind.i64.wrap (s.2 + (1 : Int)))))
  ) (
  .leaf (.inr s.1)
  ))

noncomputable def laws_FnNorms_l2_g (v447 v448 v449 v450 : Nat) (v453 v454 : Int) (v455 v456 v457 : List Nat) (s0 : Nat × Int) : Option (Nat) := whileM (fun s => (laws_FnNorms_l2_T v447 v448 v449 v450 v453 v454 v455 v456 v457 s).run) s0
def laws_FnNorms_l2_E (v1 v2 : List Int) (v447 v448 v449 v450 : Nat) (v453 v454 : Int) (v455 v456 v457 : List Nat) (s : Nat × Int) : Sd := ([Z,.bslc (BR.root 1) (.u8 v2),Z,Z,Z,.ptr 0 (0 : Nat) 0 (3 : Nat),.flt .f32 v447,Z,.flt .f32 v448,Z,.flt .f32 v449,Z,Z,Z,Z,Z,.own 1 0 ((v455).length),.own 2 0 ((v456).length),Z,.flt .f64 v450,Z,.flt .f64 s.1,.int .i64 s.2,Z,Z,Z,Z,Z,Z,Z,Z,Z,Z,Z,Z,Z,Z,Z,Z,Z,Z,Z,Z,Z,Z,Z,Z,Z,Z,Z,Z,Z,Z,Z,Z,Z,Z,Z,Z,Z,Z,Z,Z,Z,Z,Z,Z,Z,Z,Z,Z,Z,Z,Z,Z,Z,Z,Z,Z,Z,Z,Z,Z,Z,Z,Z,Z,Z,Z,Z,Z,Z,Z,Z,Z,Z,Z,Z,Z,Z,Z,Z,Z,Z,Z,Z,Z,Z,Z,Z,Z,Z,Z,Z,Z,Z,Z,Z,Z,Z,Z,Z,Z,Z,Z,Z,Z,Z,Z,Z,Z,Z,Z,Z,Z,Z,Z,Z,Z,Z,Z,Z,Z,Z,Z,Z,Z,Z,Z,Z,Z,Z,Z,Z,Z,Z,Z,Z,Z,Z,Z,Z,Z,Z,Z,Z,Z,Z,Z,Z,Z,Z,Z,Z,Z,Z,Z,Z,Z,Z,Z,Z,Z,Z,Z,Z,Z,Z,Z,Z,Z,Z,Z,Z,Z,Z,Z,Z,Z,Z,Z,Z,Z,Z,Z,Z,Z,Z,Z,Z,Z,Z,Z,Z,Z,Z,Z,Z,Z,Z,Z,Z,Z,Z,Z,Z,Z,Z,Z,Z,Z,Z,Z,Z,Z,Z,Z,Z,Z,Z,Z,Z,Z,Z,Z,Z,Z,Z,Z,Z,Z,Z,Z,Z,Z,Z,Z,Z,Z,Z,Z,Z,Z,Z,Z,Z,Z,Z,Z,Z,Z,Z,Z,Z,Z,Z,Z,Z,Z,Z,Z,Z,Z,Z,Z,Z,Z,Z,Z,Z,Z,Z,Z,Z,Z,Z,Z,Z,Z,Z,Z,Z,Z,Z,Z,Z,Z,Z,Z,Z,Z,Z,Z,Z,Z,Z,Z,Z,Z,Z,Z,Z,Z,Z,Z,Z,Z,Z,Z,Z,Z,Z,Z,Z,Z,Z,Z,Z,Z,Z,Z,Z,Z,Z,Z,Z,Z,Z,Z,Z,Z,Z,Z,Z,Z,Z,Z,Z,Z,Z,Z,Z,Z,Z,Z,Z,Z,Z,Z,Z,Z,Z,Z,Z,Z,Z,Z,Z,Z,Z,Z], [.gen [.int .i64 v453, .int .i64 v454, .own 3 0 ((v457).length)] false 0, .row (.f32 v455) 0, .row (.f32 v456) 0, .row (.f32 v457) 0])
def laws_FnNorms_l2_X (v1 v2 : List Int) (v447 v448 v449 v450 : Nat) (v453 v454 : Int) (v455 v456 v457 : List Nat) (x : Nat) : Out := (.normal, [Z,.bslc (BR.root 1) (.u8 v2),Z,Z,Z,.ptr 0 (0 : Nat) 0 (3 : Nat),.flt .f32 v447,Z,.flt .f32 v448,Z,.flt .f32 v449,Z,Z,Z,Z,Z,Z,.own 1 0 ((v456).length),Z,.flt .f64 v450,Z,.flt .f64 x,Z,Z,Z,Z,Z,Z,Z,Z,Z,Z,Z,Z,Z,Z,Z,Z,Z,Z,Z,Z,Z,Z,Z,Z,Z,Z,Z,Z,Z,Z,Z,Z,Z,Z,Z,Z,Z,Z,Z,Z,Z,Z,Z,Z,Z,Z,Z,Z,Z,Z,Z,Z,Z,Z,Z,Z,Z,Z,Z,Z,Z,Z,Z,Z,Z,Z,Z,Z,Z,Z,Z,Z,Z,Z,Z,Z,Z,Z,Z,Z,Z,Z,Z,Z,Z,Z,Z,Z,Z,Z,Z,Z,Z,Z,Z,Z,Z,Z,Z,Z,Z,Z,Z,Z,Z,Z,Z,Z,Z,Z,Z,Z,Z,Z,Z,Z,Z,Z,Z,Z,Z,Z,Z,Z,Z,Z,Z,Z,Z,Z,Z,Z,Z,Z,Z,Z,Z,Z,Z,Z,Z,Z,Z,Z,Z,Z,Z,Z,Z,Z,Z,Z,Z,Z,Z,Z,Z,Z,Z,Z,Z,Z,Z,Z,Z,Z,Z,Z,Z,Z,Z,Z,Z,Z,Z,Z,Z,Z,Z,Z,Z,Z,Z,Z,Z,Z,Z,Z,Z,Z,Z,Z,Z,Z,Z,Z,Z,Z,Z,Z,Z,Z,Z,Z,Z,Z,Z,Z,Z,Z,Z,Z,Z,Z,Z,Z,Z,Z,Z,Z,Z,Z,Z,Z,Z,Z,Z,Z,Z,Z,Z,Z,Z,Z,Z,Z,Z,Z,Z,Z,Z,Z,Z,Z,Z,Z,Z,Z,Z,Z,Z,Z,Z,Z,Z,Z,Z,Z,Z,Z,Z,Z,Z,Z,Z,Z,Z,Z,Z,Z,Z,Z,Z,Z,Z,Z,Z,Z,Z,Z,Z,Z,Z,Z,Z,Z,Z,Z,Z,Z,Z,Z,Z,Z,Z,Z,Z,Z,Z,Z,Z,Z,Z,Z,Z,Z,Z,Z,Z,Z,Z,Z,Z,Z,Z,Z,Z,Z,Z,Z,Z,Z,Z,Z,Z,Z,Z,Z,Z,Z,Z,Z,Z,Z,Z,Z,Z,Z,Z,Z,Z,Z,Z,Z,Z,Z,Z,Z,Z,Z,Z,Z,Z,Z,Z,Z,Z,Z,Z], [.gen [.int .i64 v453, .int .i64 v454, .own 2 0 ((v457).length)] false 0, .row (.f32 v456) 0, .row (.f32 v457) 0])
def laws_FnNorms_l2_kill : List Nat := KL true [1,1,3,2,1,1,1,1,5,2,1,1,1,2,358]
def laws_FnNorms_l2_nx : Exit → List Nat
  | .exit 2 => KL true [1,1,3,2,1,1,1,1,6,1,1,1,1,1,359]
  | .ret => KL true [4,1,376]
  | _ => []
noncomputable def laws_FnNorms_l4_T (v479 v480 v481 v482 v483 : Nat) (v485 v486 : Int) (v487 v488 : List Nat) (s : Int) : Tree ((Int) ⊕ ((Unit) ⊕ (Unit))) :=
  (.br (decide (s < (((v487).length : Nat) : Int))) (
  (.grd (inb s ((v487).length)) <|
  (.br (fgrt .f64 (laws_r8Gap_v (wid (nth v487 (Int.toNat s))) (0 : Nat)) (fadd .f64 (fmul .f64 (wid v479) v483) (4562254508917369340 : Nat))) (
  .leaf (.inr (.inl ()))
  ) (
  .leaf (.inl (IntKind.i64.wrap (s + (1 : Int))))
  )))
  ) (
  .leaf (.inr (.inr ()))
  ))

noncomputable def laws_FnNorms_l4_g (v479 v480 v481 v482 v483 : Nat) (v485 v486 : Int) (v487 v488 : List Nat) (s0 : Int) : Option ((Unit) ⊕ (Unit)) := whileM (fun s => (laws_FnNorms_l4_T v479 v480 v481 v482 v483 v485 v486 v487 v488 s).run) s0
def laws_FnNorms_l4_E (v1 v2 : List Int) (v479 v480 v481 v482 v483 : Nat) (v485 v486 : Int) (v487 v488 : List Nat) (s : Int) : Sd := ([Z,.bslc (BR.root 1) (.u8 v2),Z,Z,Z,.ptr 0 (0 : Nat) 0 (3 : Nat),.flt .f32 v479,Z,.flt .f32 v480,Z,.flt .f32 v481,Z,Z,Z,Z,Z,Z,.own 1 0 ((v487).length),Z,.flt .f64 v482,Z,.flt .f64 v483,Z,.int .i64 s,Z,Z,Z,Z,Z,Z,Z,Z,Z,Z,Z,Z,Z,Z,Z,Z,Z,Z,Z,Z,Z,Z,Z,Z,Z,Z,Z,Z,Z,Z,Z,Z,Z,Z,Z,Z,Z,Z,Z,Z,Z,Z,Z,Z,Z,Z,Z,Z,Z,Z,Z,Z,Z,Z,Z,Z,Z,Z,Z,Z,Z,Z,Z,Z,Z,Z,Z,Z,Z,Z,Z,Z,Z,Z,Z,Z,Z,Z,Z,Z,Z,Z,Z,Z,Z,Z,Z,Z,Z,Z,Z,Z,Z,Z,Z,Z,Z,Z,Z,Z,Z,Z,Z,Z,Z,Z,Z,Z,Z,Z,Z,Z,Z,Z,Z,Z,Z,Z,Z,Z,Z,Z,Z,Z,Z,Z,Z,Z,Z,Z,Z,Z,Z,Z,Z,Z,Z,Z,Z,Z,Z,Z,Z,Z,Z,Z,Z,Z,Z,Z,Z,Z,Z,Z,Z,Z,Z,Z,Z,Z,Z,Z,Z,Z,Z,Z,Z,Z,Z,Z,Z,Z,Z,Z,Z,Z,Z,Z,Z,Z,Z,Z,Z,Z,Z,Z,Z,Z,Z,Z,Z,Z,Z,Z,Z,Z,Z,Z,Z,Z,Z,Z,Z,Z,Z,Z,Z,Z,Z,Z,Z,Z,Z,Z,Z,Z,Z,Z,Z,Z,Z,Z,Z,Z,Z,Z,Z,Z,Z,Z,Z,Z,Z,Z,Z,Z,Z,Z,Z,Z,Z,Z,Z,Z,Z,Z,Z,Z,Z,Z,Z,Z,Z,Z,Z,Z,Z,Z,Z,Z,Z,Z,Z,Z,Z,Z,Z,Z,Z,Z,Z,Z,Z,Z,Z,Z,Z,Z,Z,Z,Z,Z,Z,Z,Z,Z,Z,Z,Z,Z,Z,Z,Z,Z,Z,Z,Z,Z,Z,Z,Z,Z,Z,Z,Z,Z,Z,Z,Z,Z,Z,Z,Z,Z,Z,Z,Z,Z,Z,Z,Z,Z,Z,Z,Z,Z,Z,Z,Z,Z,Z,Z,Z,Z,Z,Z,Z,Z,Z,Z,Z,Z,Z,Z,Z,Z,Z,Z,Z,Z,Z,Z,Z,Z,Z,Z,Z], [.gen [.int .i64 v485, .int .i64 v486, .own 2 0 ((v488).length)] false 0, .row (.f32 v487) 0, .row (.f32 v488) 0])
def laws_FnNorms_l4_X (v1 v2 : List Int) (v479 v480 v481 v482 v483 : Nat) (v485 v486 : Int) (v487 v488 : List Nat) (x : (Unit) ⊕ (Unit)) : Out := (match x with | .inl x => (.ret, [Z,Z,Z,Z,.lit false,Z,Z,Z,Z,Z,Z,Z,Z,Z,Z,Z,Z,Z,Z,Z,Z,Z,Z,Z,Z,Z,Z,Z,Z,Z,Z,Z,Z,Z,Z,Z,Z,Z,Z,Z,Z,Z,Z,Z,Z,Z,Z,Z,Z,Z,Z,Z,Z,Z,Z,Z,Z,Z,Z,Z,Z,Z,Z,Z,Z,Z,Z,Z,Z,Z,Z,Z,Z,Z,Z,Z,Z,Z,Z,Z,Z,Z,Z,Z,Z,Z,Z,Z,Z,Z,Z,Z,Z,Z,Z,Z,Z,Z,Z,Z,Z,Z,Z,Z,Z,Z,Z,Z,Z,Z,Z,Z,Z,Z,Z,Z,Z,Z,Z,Z,Z,Z,Z,Z,Z,Z,Z,Z,Z,Z,Z,Z,Z,Z,Z,Z,Z,Z,Z,Z,Z,Z,Z,Z,Z,Z,Z,Z,Z,Z,Z,Z,Z,Z,Z,Z,Z,Z,Z,Z,Z,Z,Z,Z,Z,Z,Z,Z,Z,Z,Z,Z,Z,Z,Z,Z,Z,Z,Z,Z,Z,Z,Z,Z,Z,Z,Z,Z,Z,Z,Z,Z,Z,Z,Z,Z,Z,Z,Z,Z,Z,Z,Z,Z,Z,Z,Z,Z,Z,Z,Z,Z,Z,Z,Z,Z,Z,Z,Z,Z,Z,Z,Z,Z,Z,Z,Z,Z,Z,Z,Z,Z,Z,Z,Z,Z,Z,Z,Z,Z,Z,Z,Z,Z,Z,Z,Z,Z,Z,Z,Z,Z,Z,Z,Z,Z,Z,Z,Z,Z,Z,Z,Z,Z,Z,Z,Z,Z,Z,Z,Z,Z,Z,Z,Z,Z,Z,Z,Z,Z,Z,Z,Z,Z,Z,Z,Z,Z,Z,Z,Z,Z,Z,Z,Z,Z,Z,Z,Z,Z,Z,Z,Z,Z,Z,Z,Z,Z,Z,Z,Z,Z,Z,Z,Z,Z,Z,Z,Z,Z,Z,Z,Z,Z,Z,Z,Z,Z,Z,Z,Z,Z,Z,Z,Z,Z,Z,Z,Z,Z,Z,Z,Z,Z,Z,Z,Z,Z,Z,Z,Z,Z,Z,Z,Z,Z,Z,Z,Z,Z,Z,Z,Z,Z,Z,Z,Z,Z,Z,Z,Z,Z,Z,Z,Z,Z,Z,Z,Z,Z,Z], []) | .inr x => (.normal, [Z,.bslc (BR.root 1) (.u8 v2),Z,Z,Z,.ptr 0 (0 : Nat) 0 (3 : Nat),.flt .f32 v479,Z,.flt .f32 v480,Z,.flt .f32 v481,Z,Z,Z,Z,Z,Z,Z,Z,.flt .f64 v482,Z,Z,Z,Z,Z,Z,Z,Z,Z,Z,Z,Z,Z,Z,Z,Z,Z,Z,Z,Z,Z,Z,Z,Z,Z,Z,Z,Z,Z,Z,Z,Z,Z,Z,Z,Z,Z,Z,Z,Z,Z,Z,Z,Z,Z,Z,Z,Z,Z,Z,Z,Z,Z,Z,Z,Z,Z,Z,Z,Z,Z,Z,Z,Z,Z,Z,Z,Z,Z,Z,Z,Z,Z,Z,Z,Z,Z,Z,Z,Z,Z,Z,Z,Z,Z,Z,Z,Z,Z,Z,Z,Z,Z,Z,Z,Z,Z,Z,Z,Z,Z,Z,Z,Z,Z,Z,Z,Z,Z,Z,Z,Z,Z,Z,Z,Z,Z,Z,Z,Z,Z,Z,Z,Z,Z,Z,Z,Z,Z,Z,Z,Z,Z,Z,Z,Z,Z,Z,Z,Z,Z,Z,Z,Z,Z,Z,Z,Z,Z,Z,Z,Z,Z,Z,Z,Z,Z,Z,Z,Z,Z,Z,Z,Z,Z,Z,Z,Z,Z,Z,Z,Z,Z,Z,Z,Z,Z,Z,Z,Z,Z,Z,Z,Z,Z,Z,Z,Z,Z,Z,Z,Z,Z,Z,Z,Z,Z,Z,Z,Z,Z,Z,Z,Z,Z,Z,Z,Z,Z,Z,Z,Z,Z,Z,Z,Z,Z,Z,Z,Z,Z,Z,Z,Z,Z,Z,Z,Z,Z,Z,Z,Z,Z,Z,Z,Z,Z,Z,Z,Z,Z,Z,Z,Z,Z,Z,Z,Z,Z,Z,Z,Z,Z,Z,Z,Z,Z,Z,Z,Z,Z,Z,Z,Z,Z,Z,Z,Z,Z,Z,Z,Z,Z,Z,Z,Z,Z,Z,Z,Z,Z,Z,Z,Z,Z,Z,Z,Z,Z,Z,Z,Z,Z,Z,Z,Z,Z,Z,Z,Z,Z,Z,Z,Z,Z,Z,Z,Z,Z,Z,Z,Z,Z,Z,Z,Z,Z,Z,Z,Z,Z,Z,Z,Z,Z,Z,Z,Z,Z,Z,Z,Z,Z,Z,Z,Z,Z,Z,Z,Z,Z,Z,Z,Z,Z,Z,Z,Z,Z,Z,Z,Z,Z,Z,Z,Z,Z,Z,Z,Z,Z], [.gen [.int .i64 v485, .int .i64 v486, .own 1 0 ((v488).length)] false 0, .row (.f32 v488) 0]))
def laws_FnNorms_l4_kill : List Nat := KL true [1,1,3,2,1,1,1,1,6,1,1,1,1,1,1,1,357]
def laws_FnNorms_l4_nx : Exit → List Nat
  | .exit 4 => KL true [1,1,3,2,1,1,1,1,8,1,361]
  | .ret => KL true [4,1,376]
  | _ => []
noncomputable def laws_FnNorms_l6_T (v653 v654 v655 v656 v657 v658 v659 v660 : Int) (v661 v662 v663 v664 : List Nat) (s : Int) : Tree ((Int) ⊕ ((Unit) ⊕ (Unit))) :=
  (.br (decide (s < (6 : Int))) (
  (.grd (inb s ((v661).length)) <|
  (.grd (inb s ((v662).length)) <|
  (.br (!feq .f32 (nth v661 (Int.toNat s)) (nth v662 (Int.toNat s))) (
  .leaf (.inr (.inl ()))
  ) (
  (.grd (inb s ((v661).length)) <|
  (.br (fless .f32 (nth v661 (Int.toNat s)) (3212836864 : Nat)) (
  .leaf (.inr (.inl ()))
  ) (
  (.grd (inb s ((v661).length)) <|
  (.br (fgrt .f32 (nth v661 (Int.toNat s)) (1065353216 : Nat) || feq .f32 (nth v661 (Int.toNat s)) (1065353216 : Nat)) (
  .leaf (.inr (.inl ()))
  ) (
  (.br (decide (s < (3 : Int))) (
  (.grd (inb s ((v661).length)) <|
  (.grd (inb s ((v663).length)) <|
  (.br (!feq .f32 (nth v661 (Int.toNat s)) (nth v663 (Int.toNat s))) (
  .leaf (.inr (.inl ()))
  ) (
  (.br (decide ((3 : Int) ≤ s)) (
  (.grd (inb s ((v661).length)) <|
  (.grd (inb (IntKind.i64.wrap (s - (3 : Int))) ((v664).length)) <|
  (.br (!feq .f32 (nth v661 (Int.toNat s)) (nth v664 (Int.toNat (IntKind.i64.wrap (s - (3 : Int)))))) (
  .leaf (.inr (.inl ()))
  ) (
  .leaf (.inl (IntKind.i64.wrap (s + (1 : Int))))
  ))))
  ) (
  .leaf (.inl (IntKind.i64.wrap (s + (1 : Int))))
  ))
  ))))
  ) (
  (.br (decide ((3 : Int) ≤ s)) (
  (.grd (inb s ((v661).length)) <|
  (.grd (inb (IntKind.i64.wrap (s - (3 : Int))) ((v664).length)) <|
  (.br (!feq .f32 (nth v661 (Int.toNat s)) (nth v664 (Int.toNat (IntKind.i64.wrap (s - (3 : Int)))))) (
  .leaf (.inr (.inl ()))
  ) (
  .leaf (.inl (IntKind.i64.wrap (s + (1 : Int))))
  ))))
  ) (
  .leaf (.inl (IntKind.i64.wrap (s + (1 : Int))))
  ))
  ))
  )))
  )))
  ))))
  ) (
  .leaf (.inr (.inr ()))
  ))

noncomputable def laws_FnNorms_l6_g (v653 v654 v655 v656 v657 v658 v659 v660 : Int) (v661 v662 v663 v664 : List Nat) (s0 : Int) : Option ((Unit) ⊕ (Unit)) := whileM (fun s => (laws_FnNorms_l6_T v653 v654 v655 v656 v657 v658 v659 v660 v661 v662 v663 v664 s).run) s0
def laws_FnNorms_l6_E (v1 v2 : List Int) (v653 v654 v655 v656 v657 v658 v659 v660 : Int) (v661 v662 v663 v664 : List Nat) (s : Int) : Sd := ([Z,.bslc (BR.root 1) (.u8 v2),Z,Z,Z,Z,Z,Z,Z,Z,Z,Z,Z,Z,Z,Z,Z,Z,Z,Z,Z,Z,Z,Z,Z,.ptr 0 (0 : Nat) 0 (3 : Nat),Z,Z,.ptr 1 (0 : Nat) 0 (3 : Nat),Z,Z,.ptr 2 (0 : Nat) 0 (3 : Nat),Z,Z,.ptr 3 (0 : Nat) 0 (3 : Nat),Z,Z,.int .i64 s,Z,Z,Z,Z,Z,Z,Z,Z,Z,Z,Z,Z,Z,Z,Z,Z,Z,Z,Z,Z,Z,Z,Z,Z,Z,Z,Z,Z,Z,Z,Z,Z,Z,Z,Z,Z,Z,Z,Z,Z,Z,Z,Z,Z,Z,Z,Z,Z,Z,Z,Z,Z,Z,Z,Z,Z,Z,Z,Z,Z,Z,Z,Z,Z,Z,Z,Z,Z,Z,Z,Z,Z,Z,Z,Z,Z,Z,Z,Z,Z,Z,Z,Z,Z,Z,Z,Z,Z,Z,Z,Z,Z,Z,Z,Z,Z,Z,Z,Z,Z,Z,Z,Z,Z,Z,Z,Z,Z,Z,Z,Z,Z,Z,Z,Z,Z,Z,Z,Z,Z,Z,Z,Z,Z,Z,Z,Z,Z,Z,Z,Z,Z,Z,Z,Z,Z,Z,Z,Z,Z,Z,Z,Z,Z,Z,Z,Z,Z,Z,Z,Z,Z,Z,Z,Z,Z,Z,Z,Z,Z,Z,Z,Z,Z,Z,Z,Z,Z,Z,Z,Z,Z,Z,Z,Z,Z,Z,Z,Z,Z,Z,Z,Z,Z,Z,Z,Z,Z,Z,Z,Z,Z,Z,Z,Z,Z,Z,Z,Z,Z,Z,Z,Z,Z,Z,Z,Z,Z,Z,Z,Z,Z,Z,Z,Z,Z,Z,Z,Z,Z,Z,Z,Z,Z,Z,Z,Z,Z,Z,Z,Z,Z,Z,Z,Z,Z,Z,Z,Z,Z,Z,Z,Z,Z,Z,Z,Z,Z,Z,Z,Z,Z,Z,Z,Z,Z,Z,Z,Z,Z,Z,Z,Z,Z,Z,Z,Z,Z,Z,Z,Z,Z,Z,Z,Z,Z,Z,Z,Z,Z,Z,Z,Z,Z,Z,Z,Z,Z,Z,Z,Z,Z,Z,Z,Z,Z,Z,Z,Z,Z,Z,Z,Z,Z,Z,Z,Z,Z,Z,Z,Z,Z,Z,Z,Z,Z,Z,Z,Z,Z,Z,Z,Z,Z,Z,Z,Z,Z,Z,Z,Z,Z,Z,Z,Z,Z,Z,Z,Z,Z,Z,Z,Z], [.gen [.int .i64 v653, .int .i64 v654, .own 4 0 ((v661).length)] false 0, .gen [.int .i64 v655, .int .i64 v656, .own 5 0 ((v662).length)] false 0, .gen [.int .i64 v657, .int .i64 v658, .own 6 0 ((v663).length)] false 0, .gen [.int .i64 v659, .int .i64 v660, .own 7 0 ((v664).length)] false 0, .row (.f32 v661) 0, .row (.f32 v662) 0, .row (.f32 v663) 0, .row (.f32 v664) 0])
def laws_FnNorms_l6_X (v1 v2 : List Int) (v653 v654 v655 v656 v657 v658 v659 v660 : Int) (v661 v662 v663 v664 : List Nat) (x : (Unit) ⊕ (Unit)) : Out := (match x with | .inl x => (.ret, [Z,Z,Z,Z,.lit false,Z,Z,Z,Z,Z,Z,Z,Z,Z,Z,Z,Z,Z,Z,Z,Z,Z,Z,Z,Z,Z,Z,Z,Z,Z,Z,Z,Z,Z,Z,Z,Z,Z,Z,Z,Z,Z,Z,Z,Z,Z,Z,Z,Z,Z,Z,Z,Z,Z,Z,Z,Z,Z,Z,Z,Z,Z,Z,Z,Z,Z,Z,Z,Z,Z,Z,Z,Z,Z,Z,Z,Z,Z,Z,Z,Z,Z,Z,Z,Z,Z,Z,Z,Z,Z,Z,Z,Z,Z,Z,Z,Z,Z,Z,Z,Z,Z,Z,Z,Z,Z,Z,Z,Z,Z,Z,Z,Z,Z,Z,Z,Z,Z,Z,Z,Z,Z,Z,Z,Z,Z,Z,Z,Z,Z,Z,Z,Z,Z,Z,Z,Z,Z,Z,Z,Z,Z,Z,Z,Z,Z,Z,Z,Z,Z,Z,Z,Z,Z,Z,Z,Z,Z,Z,Z,Z,Z,Z,Z,Z,Z,Z,Z,Z,Z,Z,Z,Z,Z,Z,Z,Z,Z,Z,Z,Z,Z,Z,Z,Z,Z,Z,Z,Z,Z,Z,Z,Z,Z,Z,Z,Z,Z,Z,Z,Z,Z,Z,Z,Z,Z,Z,Z,Z,Z,Z,Z,Z,Z,Z,Z,Z,Z,Z,Z,Z,Z,Z,Z,Z,Z,Z,Z,Z,Z,Z,Z,Z,Z,Z,Z,Z,Z,Z,Z,Z,Z,Z,Z,Z,Z,Z,Z,Z,Z,Z,Z,Z,Z,Z,Z,Z,Z,Z,Z,Z,Z,Z,Z,Z,Z,Z,Z,Z,Z,Z,Z,Z,Z,Z,Z,Z,Z,Z,Z,Z,Z,Z,Z,Z,Z,Z,Z,Z,Z,Z,Z,Z,Z,Z,Z,Z,Z,Z,Z,Z,Z,Z,Z,Z,Z,Z,Z,Z,Z,Z,Z,Z,Z,Z,Z,Z,Z,Z,Z,Z,Z,Z,Z,Z,Z,Z,Z,Z,Z,Z,Z,Z,Z,Z,Z,Z,Z,Z,Z,Z,Z,Z,Z,Z,Z,Z,Z,Z,Z,Z,Z,Z,Z,Z,Z,Z,Z,Z,Z,Z,Z,Z,Z,Z,Z,Z,Z,Z,Z,Z,Z,Z,Z,Z,Z,Z,Z,Z,Z,Z], []) | .inr x => (.normal, [Z,.bslc (BR.root 1) (.u8 v2),Z,Z,Z,Z,Z,Z,Z,Z,Z,Z,Z,Z,Z,Z,Z,Z,Z,Z,Z,Z,Z,Z,Z,Z,Z,Z,Z,Z,Z,Z,Z,Z,Z,Z,Z,Z,Z,Z,Z,Z,Z,Z,Z,Z,Z,Z,Z,Z,Z,Z,Z,Z,Z,Z,Z,Z,Z,Z,Z,Z,Z,Z,Z,Z,Z,Z,Z,Z,Z,Z,Z,Z,Z,Z,Z,Z,Z,Z,Z,Z,Z,Z,Z,Z,Z,Z,Z,Z,Z,Z,Z,Z,Z,Z,Z,Z,Z,Z,Z,Z,Z,Z,Z,Z,Z,Z,Z,Z,Z,Z,Z,Z,Z,Z,Z,Z,Z,Z,Z,Z,Z,Z,Z,Z,Z,Z,Z,Z,Z,Z,Z,Z,Z,Z,Z,Z,Z,Z,Z,Z,Z,Z,Z,Z,Z,Z,Z,Z,Z,Z,Z,Z,Z,Z,Z,Z,Z,Z,Z,Z,Z,Z,Z,Z,Z,Z,Z,Z,Z,Z,Z,Z,Z,Z,Z,Z,Z,Z,Z,Z,Z,Z,Z,Z,Z,Z,Z,Z,Z,Z,Z,Z,Z,Z,Z,Z,Z,Z,Z,Z,Z,Z,Z,Z,Z,Z,Z,Z,Z,Z,Z,Z,Z,Z,Z,Z,Z,Z,Z,Z,Z,Z,Z,Z,Z,Z,Z,Z,Z,Z,Z,Z,Z,Z,Z,Z,Z,Z,Z,Z,Z,Z,Z,Z,Z,Z,Z,Z,Z,Z,Z,Z,Z,Z,Z,Z,Z,Z,Z,Z,Z,Z,Z,Z,Z,Z,Z,Z,Z,Z,Z,Z,Z,Z,Z,Z,Z,Z,Z,Z,Z,Z,Z,Z,Z,Z,Z,Z,Z,Z,Z,Z,Z,Z,Z,Z,Z,Z,Z,Z,Z,Z,Z,Z,Z,Z,Z,Z,Z,Z,Z,Z,Z,Z,Z,Z,Z,Z,Z,Z,Z,Z,Z,Z,Z,Z,Z,Z,Z,Z,Z,Z,Z,Z,Z,Z,Z,Z,Z,Z,Z,Z,Z,Z,Z,Z,Z,Z,Z,Z,Z,Z,Z,Z,Z,Z,Z,Z,Z,Z,Z,Z,Z,Z,Z,Z,Z,Z,Z,Z,Z,Z,Z,Z,Z,Z,Z,Z,Z], []))
def laws_FnNorms_l6_kill : List Nat := KL true [1,1,23,1,2,1,2,1,2,1,2,1,343]
def laws_FnNorms_l6_nx : Exit → List Nat
  | .exit 6 => KL true [1,1,379]
  | .ret => KL true [4,1,376]
  | _ => []
noncomputable def laws_FnNorms_LO (v1 v2 : List Int) : LOr := fun id e L =>
  match id with
  | 0 => .need (normA 0 laws_FnNorms_l0_kill e L = some (laws_FnNorms_l0_E v1 v2 (gF (vAt e 6)) (gF (vAt e 8)) (gF (vAt e 10)) (gI (cAt L (vAt e 5) 0)) (gI (cAt L (vAt e 5) 1)) (gRF L (vAt e 16)) (gRF L (vAt e 17)) (gRF L (cAt L (vAt e 5) 2)) ((gF (vAt e 19)), (gI (vAt e 20))))) (.call (laws_FnNorms_l0_g (gF (vAt e 6)) (gF (vAt e 8)) (gF (vAt e 10)) (gI (cAt L (vAt e 5) 0)) (gI (cAt L (vAt e 5) 1)) (gRF L (vAt e 16)) (gRF L (vAt e 17)) (gRF L (cAt L (vAt e 5) 2)) ((gF (vAt e 19)), (gI (vAt e 20)))) fun x => .leaf (laws_FnNorms_l0_X v1 v2 (gF (vAt e 6)) (gF (vAt e 8)) (gF (vAt e 10)) (gI (cAt L (vAt e 5) 0)) (gI (cAt L (vAt e 5) 1)) (gRF L (vAt e 16)) (gRF L (vAt e 17)) (gRF L (cAt L (vAt e 5) 2)) x))
  | 2 => .need (normA 0 laws_FnNorms_l2_kill e L = some (laws_FnNorms_l2_E v1 v2 (gF (vAt e 6)) (gF (vAt e 8)) (gF (vAt e 10)) (gF (vAt e 19)) (gI (cAt L (vAt e 5) 0)) (gI (cAt L (vAt e 5) 1)) (gRF L (vAt e 16)) (gRF L (vAt e 17)) (gRF L (cAt L (vAt e 5) 2)) ((gF (vAt e 21)), (gI (vAt e 22))))) (.call (laws_FnNorms_l2_g (gF (vAt e 6)) (gF (vAt e 8)) (gF (vAt e 10)) (gF (vAt e 19)) (gI (cAt L (vAt e 5) 0)) (gI (cAt L (vAt e 5) 1)) (gRF L (vAt e 16)) (gRF L (vAt e 17)) (gRF L (cAt L (vAt e 5) 2)) ((gF (vAt e 21)), (gI (vAt e 22)))) fun x => .leaf (laws_FnNorms_l2_X v1 v2 (gF (vAt e 6)) (gF (vAt e 8)) (gF (vAt e 10)) (gF (vAt e 19)) (gI (cAt L (vAt e 5) 0)) (gI (cAt L (vAt e 5) 1)) (gRF L (vAt e 16)) (gRF L (vAt e 17)) (gRF L (cAt L (vAt e 5) 2)) x))
  | 4 => .need (normA 0 laws_FnNorms_l4_kill e L = some (laws_FnNorms_l4_E v1 v2 (gF (vAt e 6)) (gF (vAt e 8)) (gF (vAt e 10)) (gF (vAt e 19)) (gF (vAt e 21)) (gI (cAt L (vAt e 5) 0)) (gI (cAt L (vAt e 5) 1)) (gRF L (vAt e 17)) (gRF L (cAt L (vAt e 5) 2)) (gI (vAt e 23)))) (.call (laws_FnNorms_l4_g (gF (vAt e 6)) (gF (vAt e 8)) (gF (vAt e 10)) (gF (vAt e 19)) (gF (vAt e 21)) (gI (cAt L (vAt e 5) 0)) (gI (cAt L (vAt e 5) 1)) (gRF L (vAt e 17)) (gRF L (cAt L (vAt e 5) 2)) (gI (vAt e 23))) fun x => .sum x (fun b0 => .leaf (laws_FnNorms_l4_X v1 v2 (gF (vAt e 6)) (gF (vAt e 8)) (gF (vAt e 10)) (gF (vAt e 19)) (gF (vAt e 21)) (gI (cAt L (vAt e 5) 0)) (gI (cAt L (vAt e 5) 1)) (gRF L (vAt e 17)) (gRF L (cAt L (vAt e 5) 2)) (.inl b0))) (fun c0 => .leaf (laws_FnNorms_l4_X v1 v2 (gF (vAt e 6)) (gF (vAt e 8)) (gF (vAt e 10)) (gF (vAt e 19)) (gF (vAt e 21)) (gI (cAt L (vAt e 5) 0)) (gI (cAt L (vAt e 5) 1)) (gRF L (vAt e 17)) (gRF L (cAt L (vAt e 5) 2)) (.inr c0))))
  | 6 => .need (normA 0 laws_FnNorms_l6_kill e L = some (laws_FnNorms_l6_E v1 v2 (gI (cAt L (vAt e 25) 0)) (gI (cAt L (vAt e 25) 1)) (gI (cAt L (vAt e 28) 0)) (gI (cAt L (vAt e 28) 1)) (gI (cAt L (vAt e 31) 0)) (gI (cAt L (vAt e 31) 1)) (gI (cAt L (vAt e 34) 0)) (gI (cAt L (vAt e 34) 1)) (gRF L (cAt L (vAt e 25) 2)) (gRF L (cAt L (vAt e 28) 2)) (gRF L (cAt L (vAt e 31) 2)) (gRF L (cAt L (vAt e 34) 2)) (gI (vAt e 37)))) (.call (laws_FnNorms_l6_g (gI (cAt L (vAt e 25) 0)) (gI (cAt L (vAt e 25) 1)) (gI (cAt L (vAt e 28) 0)) (gI (cAt L (vAt e 28) 1)) (gI (cAt L (vAt e 31) 0)) (gI (cAt L (vAt e 31) 1)) (gI (cAt L (vAt e 34) 0)) (gI (cAt L (vAt e 34) 1)) (gRF L (cAt L (vAt e 25) 2)) (gRF L (cAt L (vAt e 28) 2)) (gRF L (cAt L (vAt e 31) 2)) (gRF L (cAt L (vAt e 34) 2)) (gI (vAt e 37))) fun x => .sum x (fun b0 => .leaf (laws_FnNorms_l6_X v1 v2 (gI (cAt L (vAt e 25) 0)) (gI (cAt L (vAt e 25) 1)) (gI (cAt L (vAt e 28) 0)) (gI (cAt L (vAt e 28) 1)) (gI (cAt L (vAt e 31) 0)) (gI (cAt L (vAt e 31) 1)) (gI (cAt L (vAt e 34) 0)) (gI (cAt L (vAt e 34) 1)) (gRF L (cAt L (vAt e 25) 2)) (gRF L (cAt L (vAt e 28) 2)) (gRF L (cAt L (vAt e 31) 2)) (gRF L (cAt L (vAt e 34) 2)) (.inl b0))) (fun c0 => .leaf (laws_FnNorms_l6_X v1 v2 (gI (cAt L (vAt e 25) 0)) (gI (cAt L (vAt e 25) 1)) (gI (cAt L (vAt e 28) 0)) (gI (cAt L (vAt e 28) 1)) (gI (cAt L (vAt e 31) 0)) (gI (cAt L (vAt e 31) 1)) (gI (cAt L (vAt e 34) 0)) (gI (cAt L (vAt e 34) 1)) (gRF L (cAt L (vAt e 25) 2)) (gRF L (cAt L (vAt e 28) 2)) (gRF L (cAt L (vAt e 31) 2)) (gRF L (cAt L (vAt e 34) 2)) (.inr c0))))
  | _ => .fail
noncomputable def laws_FnNorms_tab : List (FuncId × DFn × Bool) := [(4, laws_r8Long_F, true), (5, spec_R8Matrix_F, true), (6, impl_RowNorm_F, true), (7, impl_ColumnNorm_F, true), (8, impl_WholeNorm_F, true), (9, impl_FlipMatrix_F, true), (10, spec_R8Vector_F, true), (11, impl_TimesVector_F, true), (12, laws_r8Gap_F, true), (13, laws_r8At_F, true), (14, impl_DrawnMatrix_F, true), (15, impl_HilbertMatrix_F, true), (16, impl_SameMatrix_F, true), (17, impl_IsSymmetric_F, true)]
theorem laws_FnNorms_hO : OrcOk Try.prog (tabD laws_FnNorms_tab) (tabM laws_FnNorms_tab) := tabD_cons laws_r8Long_Fok (tabD_cons spec_R8Matrix_Fok (tabD_cons impl_RowNorm_Fok (tabD_cons impl_ColumnNorm_Fok (tabD_cons impl_WholeNorm_Fok (tabD_cons impl_FlipMatrix_Fok (tabD_cons spec_R8Vector_Fok (tabD_cons impl_TimesVector_Fok (tabD_cons laws_r8Gap_Fok (tabD_cons laws_r8At_Fok (tabD_cons impl_DrawnMatrix_Fok (tabD_cons impl_HilbertMatrix_Fok (tabD_cons impl_SameMatrix_Fok (tabD_cons impl_IsSymmetric_Fok (tabD_nil _))))))))))))))
theorem laws_FnNorms_l0_be (v1 v2 : List Int) (v414 v415 v416 : Nat) (v419 v420 : Int) (v421 v422 v423 : List Nat) (s : Nat × Int) : bodyT TT (tabD laws_FnNorms_tab) (tabM laws_FnNorms_tab) (laws_FnNorms_LO v1 v2) 0 laws_FnNorms_l0_kill laws_FnNorms_l0_nx (bodyOf Try.f3 0) 0 (laws_FnNorms_l0_E v1 v2 v414 v415 v416 v419 v420 v421 v422 v423 s) = (laws_FnNorms_l0_T v414 v415 v416 v419 v420 v421 v422 v423 s).bind fun y => .leaf (outS (laws_FnNorms_l0_E v1 v2 v414 v415 v416 v419 v420 v421 v422 v423) (laws_FnNorms_l0_X v1 v2 v414 v415 v416 v419 v420 v421 v422 v423) y) := by kernel_rfl
theorem laws_FnNorms_l0_ok (v1 v2 : List Int) : LSound Try.prog 0 (laws_FnNorms_LO v1 v2) 0 (bodyOf Try.f3 0) := by
  intro e L out h
  exact lo_ok (E := laws_FnNorms_l0_E v1 v2 (gF (vAt e 6)) (gF (vAt e 8)) (gF (vAt e 10)) (gI (cAt L (vAt e 5) 0)) (gI (cAt L (vAt e 5) 1)) (gRF L (vAt e 16)) (gRF L (vAt e 17)) (gRF L (cAt L (vAt e 5) 2))) (gT := laws_FnNorms_l0_T (gF (vAt e 6)) (gF (vAt e 8)) (gF (vAt e 10)) (gI (cAt L (vAt e 5) 0)) (gI (cAt L (vAt e 5) 1)) (gRF L (vAt e 16)) (gRF L (vAt e 17)) (gRF L (cAt L (vAt e 5) 2))) (X := laws_FnNorms_l0_X v1 v2 (gF (vAt e 6)) (gF (vAt e 8)) (gF (vAt e 10)) (gI (cAt L (vAt e 5) 0)) (gI (cAt L (vAt e 5) 1)) (gRF L (vAt e 16)) (gRF L (vAt e 17)) (gRF L (cAt L (vAt e 5) 2))) (s0 := ((gF (vAt e 19)), (gI (vAt e 20)))) tok laws_FnNorms_hO mixed (LoopsOk_eq (l := []) (by kernel_rfl) trivial) (laws_FnNorms_l0_be v1 v2 (gF (vAt e 6)) (gF (vAt e 8)) (gF (vAt e 10)) (gI (cAt L (vAt e 5) 0)) (gI (cAt L (vAt e 5) 1)) (gRF L (vAt e 16)) (gRF L (vAt e 17)) (gRF L (cAt L (vAt e 5) 2))) rfl (by intro x; rfl) h
theorem laws_FnNorms_l2_be (v1 v2 : List Int) (v447 v448 v449 v450 : Nat) (v453 v454 : Int) (v455 v456 v457 : List Nat) (s : Nat × Int) : bodyT TT (tabD laws_FnNorms_tab) (tabM laws_FnNorms_tab) (laws_FnNorms_LO v1 v2) 0 laws_FnNorms_l2_kill laws_FnNorms_l2_nx (bodyOf Try.f3 2) 2 (laws_FnNorms_l2_E v1 v2 v447 v448 v449 v450 v453 v454 v455 v456 v457 s) = (laws_FnNorms_l2_T v447 v448 v449 v450 v453 v454 v455 v456 v457 s).bind fun y => .leaf (outS (laws_FnNorms_l2_E v1 v2 v447 v448 v449 v450 v453 v454 v455 v456 v457) (laws_FnNorms_l2_X v1 v2 v447 v448 v449 v450 v453 v454 v455 v456 v457) y) := by kernel_rfl
theorem laws_FnNorms_l2_ok (v1 v2 : List Int) : LSound Try.prog 0 (laws_FnNorms_LO v1 v2) 2 (bodyOf Try.f3 2) := by
  intro e L out h
  exact lo_ok (E := laws_FnNorms_l2_E v1 v2 (gF (vAt e 6)) (gF (vAt e 8)) (gF (vAt e 10)) (gF (vAt e 19)) (gI (cAt L (vAt e 5) 0)) (gI (cAt L (vAt e 5) 1)) (gRF L (vAt e 16)) (gRF L (vAt e 17)) (gRF L (cAt L (vAt e 5) 2))) (gT := laws_FnNorms_l2_T (gF (vAt e 6)) (gF (vAt e 8)) (gF (vAt e 10)) (gF (vAt e 19)) (gI (cAt L (vAt e 5) 0)) (gI (cAt L (vAt e 5) 1)) (gRF L (vAt e 16)) (gRF L (vAt e 17)) (gRF L (cAt L (vAt e 5) 2))) (X := laws_FnNorms_l2_X v1 v2 (gF (vAt e 6)) (gF (vAt e 8)) (gF (vAt e 10)) (gF (vAt e 19)) (gI (cAt L (vAt e 5) 0)) (gI (cAt L (vAt e 5) 1)) (gRF L (vAt e 16)) (gRF L (vAt e 17)) (gRF L (cAt L (vAt e 5) 2))) (s0 := ((gF (vAt e 21)), (gI (vAt e 22)))) tok laws_FnNorms_hO mixed (LoopsOk_eq (l := []) (by kernel_rfl) trivial) (laws_FnNorms_l2_be v1 v2 (gF (vAt e 6)) (gF (vAt e 8)) (gF (vAt e 10)) (gF (vAt e 19)) (gI (cAt L (vAt e 5) 0)) (gI (cAt L (vAt e 5) 1)) (gRF L (vAt e 16)) (gRF L (vAt e 17)) (gRF L (cAt L (vAt e 5) 2))) rfl (by intro x; rfl) h
theorem laws_FnNorms_l4_be (v1 v2 : List Int) (v479 v480 v481 v482 v483 : Nat) (v485 v486 : Int) (v487 v488 : List Nat) (s : Int) : bodyT TT (tabD laws_FnNorms_tab) (tabM laws_FnNorms_tab) (laws_FnNorms_LO v1 v2) 0 laws_FnNorms_l4_kill laws_FnNorms_l4_nx (bodyOf Try.f3 4) 4 (laws_FnNorms_l4_E v1 v2 v479 v480 v481 v482 v483 v485 v486 v487 v488 s) = (laws_FnNorms_l4_T v479 v480 v481 v482 v483 v485 v486 v487 v488 s).bind fun y => .leaf (outS (laws_FnNorms_l4_E v1 v2 v479 v480 v481 v482 v483 v485 v486 v487 v488) (laws_FnNorms_l4_X v1 v2 v479 v480 v481 v482 v483 v485 v486 v487 v488) y) := by kernel_rfl
theorem laws_FnNorms_l4_ok (v1 v2 : List Int) : LSound Try.prog 0 (laws_FnNorms_LO v1 v2) 4 (bodyOf Try.f3 4) := by
  intro e L out h
  exact lo_ok (E := laws_FnNorms_l4_E v1 v2 (gF (vAt e 6)) (gF (vAt e 8)) (gF (vAt e 10)) (gF (vAt e 19)) (gF (vAt e 21)) (gI (cAt L (vAt e 5) 0)) (gI (cAt L (vAt e 5) 1)) (gRF L (vAt e 17)) (gRF L (cAt L (vAt e 5) 2))) (gT := laws_FnNorms_l4_T (gF (vAt e 6)) (gF (vAt e 8)) (gF (vAt e 10)) (gF (vAt e 19)) (gF (vAt e 21)) (gI (cAt L (vAt e 5) 0)) (gI (cAt L (vAt e 5) 1)) (gRF L (vAt e 17)) (gRF L (cAt L (vAt e 5) 2))) (X := laws_FnNorms_l4_X v1 v2 (gF (vAt e 6)) (gF (vAt e 8)) (gF (vAt e 10)) (gF (vAt e 19)) (gF (vAt e 21)) (gI (cAt L (vAt e 5) 0)) (gI (cAt L (vAt e 5) 1)) (gRF L (vAt e 17)) (gRF L (cAt L (vAt e 5) 2))) (s0 := (gI (vAt e 23))) tok laws_FnNorms_hO mixed (LoopsOk_eq (l := []) (by kernel_rfl) trivial) (laws_FnNorms_l4_be v1 v2 (gF (vAt e 6)) (gF (vAt e 8)) (gF (vAt e 10)) (gF (vAt e 19)) (gF (vAt e 21)) (gI (cAt L (vAt e 5) 0)) (gI (cAt L (vAt e 5) 1)) (gRF L (vAt e 17)) (gRF L (cAt L (vAt e 5) 2))) rfl (by intro x; (cases x with | inl b => rfl | inr x => exact rfl)) h
theorem laws_FnNorms_l6_be (v1 v2 : List Int) (v653 v654 v655 v656 v657 v658 v659 v660 : Int) (v661 v662 v663 v664 : List Nat) (s : Int) : bodyT TT (tabD laws_FnNorms_tab) (tabM laws_FnNorms_tab) (laws_FnNorms_LO v1 v2) 0 laws_FnNorms_l6_kill laws_FnNorms_l6_nx (bodyOf Try.f3 6) 6 (laws_FnNorms_l6_E v1 v2 v653 v654 v655 v656 v657 v658 v659 v660 v661 v662 v663 v664 s) = (laws_FnNorms_l6_T v653 v654 v655 v656 v657 v658 v659 v660 v661 v662 v663 v664 s).bind fun y => .leaf (outS (laws_FnNorms_l6_E v1 v2 v653 v654 v655 v656 v657 v658 v659 v660 v661 v662 v663 v664) (laws_FnNorms_l6_X v1 v2 v653 v654 v655 v656 v657 v658 v659 v660 v661 v662 v663 v664) y) := by kernel_rfl
theorem laws_FnNorms_l6_ok (v1 v2 : List Int) : LSound Try.prog 0 (laws_FnNorms_LO v1 v2) 6 (bodyOf Try.f3 6) := by
  intro e L out h
  exact lo_ok (E := laws_FnNorms_l6_E v1 v2 (gI (cAt L (vAt e 25) 0)) (gI (cAt L (vAt e 25) 1)) (gI (cAt L (vAt e 28) 0)) (gI (cAt L (vAt e 28) 1)) (gI (cAt L (vAt e 31) 0)) (gI (cAt L (vAt e 31) 1)) (gI (cAt L (vAt e 34) 0)) (gI (cAt L (vAt e 34) 1)) (gRF L (cAt L (vAt e 25) 2)) (gRF L (cAt L (vAt e 28) 2)) (gRF L (cAt L (vAt e 31) 2)) (gRF L (cAt L (vAt e 34) 2))) (gT := laws_FnNorms_l6_T (gI (cAt L (vAt e 25) 0)) (gI (cAt L (vAt e 25) 1)) (gI (cAt L (vAt e 28) 0)) (gI (cAt L (vAt e 28) 1)) (gI (cAt L (vAt e 31) 0)) (gI (cAt L (vAt e 31) 1)) (gI (cAt L (vAt e 34) 0)) (gI (cAt L (vAt e 34) 1)) (gRF L (cAt L (vAt e 25) 2)) (gRF L (cAt L (vAt e 28) 2)) (gRF L (cAt L (vAt e 31) 2)) (gRF L (cAt L (vAt e 34) 2))) (X := laws_FnNorms_l6_X v1 v2 (gI (cAt L (vAt e 25) 0)) (gI (cAt L (vAt e 25) 1)) (gI (cAt L (vAt e 28) 0)) (gI (cAt L (vAt e 28) 1)) (gI (cAt L (vAt e 31) 0)) (gI (cAt L (vAt e 31) 1)) (gI (cAt L (vAt e 34) 0)) (gI (cAt L (vAt e 34) 1)) (gRF L (cAt L (vAt e 25) 2)) (gRF L (cAt L (vAt e 28) 2)) (gRF L (cAt L (vAt e 31) 2)) (gRF L (cAt L (vAt e 34) 2))) (s0 := (gI (vAt e 37))) tok laws_FnNorms_hO mixed (LoopsOk_eq (l := []) (by kernel_rfl) trivial) (laws_FnNorms_l6_be v1 v2 (gI (cAt L (vAt e 25) 0)) (gI (cAt L (vAt e 25) 1)) (gI (cAt L (vAt e 28) 0)) (gI (cAt L (vAt e 28) 1)) (gI (cAt L (vAt e 31) 0)) (gI (cAt L (vAt e 31) 1)) (gI (cAt L (vAt e 34) 0)) (gI (cAt L (vAt e 34) 1)) (gRF L (cAt L (vAt e 25) 2)) (gRF L (cAt L (vAt e 28) 2)) (gRF L (cAt L (vAt e 31) 2)) (gRF L (cAt L (vAt e 34) 2))) rfl (by intro x; (cases x with | inl b => rfl | inr x => exact rfl)) h
noncomputable def laws_FnNorms_T (v1 v2 : List Int) : Tree (Bool) :=
  (.br (laws_r8Long_v v1 v2) (
  .leaf true
  ) (
  (.call (spec_R8Matrix_g v1) fun v59 =>
  (.call (impl_RowNorm_g v59.1 v59.2.1 v59.2.2) fun v168 =>
  (.sum v168 (fun v169 =>
  .fail
  ) (fun v170 =>
  (.call (impl_ColumnNorm_g v59.1 v59.2.1 v59.2.2) fun v286 =>
  (.sum v286 (fun v287 =>
  .fail
  ) (fun v288 =>
  (.call (impl_WholeNorm_g v59.1 v59.2.1 v59.2.2) fun v313 =>
  (.sum v313 (fun v314 =>
  .fail
  ) (fun v315 =>
  (.call (impl_FlipMatrix_g v59.1 v59.2.1 v59.2.2) fun v321 =>
  (.sum v321 (fun v322 =>
  .fail
  ) (fun v323 =>
  (.call (impl_RowNorm_g v323.1 v323.2.1 v323.2.2) fun v324 =>
  (.sum v324 (fun v325 =>
  .fail
  ) (fun v326 =>
  (.call (spec_R8Vector_g v2 v59.2.1) fun v352 =>
  (.call (impl_TimesVector_g v59.1 v59.2.1 v59.2.2 v352) fun v389 =>
  (.sum v389 (fun v390 =>
  .fail
  ) (fun v391 =>
  (.br (!feq .f32 v326 v288) (
  .leaf false
  ) (
  (.br (!decide ((((v391).length : Nat) : Int) = v59.1)) (
  .leaf false
  ) (
  (.need (some (laws_FnNorms_l0_E v1 v2 v170 v288 v315 v59.1 v59.2.1 v352 v391 v59.2.2 ((0 : Nat), (0 : Int))) = some (laws_FnNorms_l0_E v1 v2 v170 v288 v315 v59.1 v59.2.1 v352 v391 v59.2.2 ((0 : Nat), (0 : Int)))) <|
  (.call (laws_FnNorms_l0_g v170 v288 v315 v59.1 v59.2.1 v352 v391 v59.2.2 ((0 : Nat), (0 : Int))) fun v424 =>
  (.need (some (laws_FnNorms_l2_E v1 v2 v170 v288 v315 v424 v59.1 v59.2.1 v352 v391 v59.2.2 ((0 : Nat), (0 : Int))) = some (laws_FnNorms_l2_E v1 v2 v170 v288 v315 v424 v59.1 v59.2.1 v352 v391 v59.2.2 ((0 : Nat), (0 : Int)))) <|
  (.call (laws_FnNorms_l2_g v170 v288 v315 v424 v59.1 v59.2.1 v352 v391 v59.2.2 ((0 : Nat), (0 : Int))) fun v458 =>
  (.need (some (laws_FnNorms_l4_E v1 v2 v170 v288 v315 v424 v458 v59.1 v59.2.1 v391 v59.2.2 (0 : Int)) = some (laws_FnNorms_l4_E v1 v2 v170 v288 v315 v424 v458 v59.1 v59.2.1 v391 v59.2.2 (0 : Int))) <|
  (.call (laws_FnNorms_l4_g v170 v288 v315 v424 v458 v59.1 v59.2.1 v391 v59.2.2 (0 : Int)) fun v489 =>
  (.sum v489 (fun v490 =>
  .leaf false
  ) (fun v491 =>
  (.br (fless .f64 (wid v170) v424) (
  .leaf false
  ) (
  (.br (fless .f64 (wid v288) v424) (
  .leaf false
  ) (
  (.br (fless .f64 (wid v315) (fsub .f64 v424 (4562254508917369340 : Nat))) (
  .leaf false
  ) (
  (.br (fgrt .f64 (wid v170) (fadd .f64 (fmul .f64 v424 (fofint .f64 v59.2.1)) (4562254508917369340 : Nat))) (
  .leaf false
  ) (
  (.br (fgrt .f64 (fmul .f64 (wid v315) (wid v315)) (fadd .f64 (fmul .f64 (fmul .f64 (wid v170) (wid v288)) (4617315517961601024 : Nat)) (4576918229304087675 : Nat))) (
  .leaf false
  ) (
  (.call (laws_r8At_g v2 (40 : Int) (256 : Int)) fun v495 =>
  (.call (impl_DrawnMatrix_g (2 : Int) (3 : Int) (IntKind.i64.wrap ((IntKind.i64.wrap (v495 * (7919 : Int))) + (5 : Int)))) fun v614 =>
  (.sum v614 (fun v615 =>
  .fail
  ) (fun v616 =>
  (.call (impl_DrawnMatrix_g (3 : Int) (2 : Int) (IntKind.i64.wrap ((IntKind.i64.wrap (v495 * (7919 : Int))) + (5 : Int)))) fun v617 =>
  (.sum v617 (fun v618 =>
  .fail
  ) (fun v619 =>
  (.call (impl_DrawnMatrix_g (1 : Int) (3 : Int) (IntKind.i64.wrap ((IntKind.i64.wrap (v495 * (7919 : Int))) + (5 : Int)))) fun v620 =>
  (.sum v620 (fun v621 =>
  .fail
  ) (fun v622 =>
  (.call (impl_DrawnMatrix_g (1 : Int) (3 : Int) v622.2.2.1) fun v623 =>
  (.sum v623 (fun v624 =>
  .fail
  ) (fun v625 =>
  (.br (!decide (v616.2.2.1 = v619.2.2.1)) (
  .leaf false
  ) (
  (.br (!decide (v625.2.2.1 = v616.2.2.1)) (
  .leaf false
  ) (
  (.br (!decide ((((v616.2.2.2).length : Nat) : Int) = (6 : Int))) (
  .leaf false
  ) (
  (.br (!decide ((((v619.2.2.2).length : Nat) : Int) = (6 : Int))) (
  .leaf false
  ) (
  (.br (!decide ((((v622.2.2.2).length : Nat) : Int) = (3 : Int))) (
  .leaf false
  ) (
  (.br (!decide ((((v625.2.2.2).length : Nat) : Int) = (3 : Int))) (
  .leaf false
  ) (
  (.need (some (laws_FnNorms_l6_E v1 v2 v616.1 v616.2.1 v619.1 v619.2.1 v622.1 v622.2.1 v625.1 v625.2.1 v616.2.2.2 v619.2.2.2 v622.2.2.2 v625.2.2.2 (0 : Int)) = some (laws_FnNorms_l6_E v1 v2 v616.1 v616.2.1 v619.1 v619.2.1 v622.1 v622.2.1 v625.1 v625.2.1 v616.2.2.2 v619.2.2.2 v622.2.2.2 v625.2.2.2 (0 : Int))) <|
  (.call (laws_FnNorms_l6_g v616.1 v616.2.1 v619.1 v619.2.1 v622.1 v622.2.1 v625.1 v625.2.1 v616.2.2.2 v619.2.2.2 v622.2.2.2 v625.2.2.2 (0 : Int)) fun v665 =>
  (.sum v665 (fun v666 =>
  .leaf false
  ) (fun v667 =>
  (.call (laws_r8At_g v2 (41 : Int) (6 : Int)) fun v668 =>
  (.call (impl_HilbertMatrix_g (IntKind.i64.wrap ((1 : Int) + v668))) fun v744 =>
  (.sum v744 (fun v745 =>
  .fail
  ) (fun v746 =>
  (.call (impl_FlipMatrix_g v746.1 v746.2.1 v746.2.2) fun v747 =>
  (.sum v747 (fun v748 =>
  .fail
  ) (fun v749 =>
  (.call (impl_SameMatrix_g v746.1 v746.2.1 v746.2.2 v749.1 v749.2.1 v749.2.2) fun v776 =>
  (.br v776 (
  (.grd (inb (0 : Int) ((v746.2.2).length)) <|
  (.br (feq .f32 (nth v746.2.2 (Int.toNat (0 : Int))) (1065353216 : Nat)) (
  (.call (impl_IsSymmetric_g v746.1 v746.2.1 v746.2.2) fun v836 =>
  .leaf v836)
  ) (
  .leaf false
  )))
  ) (
  .leaf false
  )))
  )))
  ))))
  ))))
  ))
  ))
  ))
  ))
  ))
  ))
  )))
  )))
  )))
  ))))
  ))
  ))
  ))
  ))
  ))
  ))))))))
  ))
  ))
  ))))
  )))
  )))
  )))
  )))
  ))))
  ))

noncomputable def laws_FnNorms_g (v1 v2 : List Int) : Option (Bool) := (laws_FnNorms_T v1 v2).run
def laws_FnNorms_enc (v1 v2 : List Int) (y : Bool) : Rs := (.bool y, [])
theorem laws_FnNorms_den (v1 v2 : List Int) : (den TT (tabD laws_FnNorms_tab) (tabM laws_FnNorms_tab) (laws_FnNorms_LO v1 v2) (codeOf Try.f3) ([.bslc (BR.root 0) (.u8 v1), .bslc (BR.root 1) (.u8 v2)] ++ List.replicate (Try.f3.ntmps - ([.bslc (BR.root 0) (.u8 v1), .bslc (BR.root 1) (.u8 v2)] : List DV).length) .undef) []).bind (retD TT Try.f3.results.toList 0) = (laws_FnNorms_T v1 v2).bind fun y => .leaf (laws_FnNorms_enc v1 v2 y) := by kernel_rfl
theorem laws_FnNorms_fn (v1 v2 : List Int) (F : Fr) (h0 : St F [] F.H0) (hA : DVs.Ok F [] [.bslc (BR.root 0) (.u8 v1), .bslc (BR.root 1) (.u8 v2)]) {y : Bool} (hy : laws_FnNorms_g v1 v2 = some y) : ∃ F' H', Fwd 0 F F' [] (laws_FnNorms_enc v1 v2 y).2 ∧ FnOk Try.prog 3 (DVs.av F [.bslc (BR.root 0) (.u8 v1), .bslc (BR.root 1) (.u8 v2)]) F.H0 ((laws_FnNorms_enc v1 v2 y).1.av F') H' ∧ St F' (laws_FnNorms_enc v1 v2 y).2 H' ∧ (laws_FnNorms_enc v1 v2 y).1.Ok F' (laws_FnNorms_enc v1 v2 y).2 :=
  fn_fin tok laws_FnNorms_hO mixed Try.func3 Try.call3 (by kernel_rfl) (LoopsOk_eq (l := [(0, bodyOf Try.f3 0), (2, bodyOf Try.f3 2), (4, bodyOf Try.f3 4), (6, bodyOf Try.f3 6)]) (by kernel_rfl) ⟨laws_FnNorms_l0_ok v1 v2, laws_FnNorms_l2_ok v1 v2, laws_FnNorms_l4_ok v1 v2, laws_FnNorms_l6_ok v1 v2, trivial⟩) (laws_FnNorms_den v1 v2) hy h0 hA
noncomputable def laws_FnNorms_F : DFn := fun args L =>
  match args with
  | [a1, a2] =>
    optT (rowU8 L a1) fun v1 =>
    optT (rowU8 L a2) fun v2 =>
    .call (laws_FnNorms_g v1 v2) fun y => .leaf (.bool y, L)
  | _ => .fail
theorem laws_FnNorms_Fok : COk Try.prog 3 laws_FnNorms_F true := by
  intro F L H args r L' hs ha hr
  unfold laws_FnNorms_F at hr
  split at hr
  · rename_i a1 a2
    obtain ⟨v1, hv1, hr⟩ := optT_run hr
    obtain ⟨v2, hv2, hr⟩ := optT_run hr
    simp only [Tree.run] at hr
    obtain ⟨y, hy, hr⟩ := Option.bind_eq_some_iff.1 hr
    simp only [Tree.run, Option.some.injEq, Prod.mk.injEq] at hr
    obtain ⟨rfl, rfl⟩ := hr
    exact call_ok0 hs (fun k => (([a1.av F, a2.av F] : List AV)[k]?).getD .top) [a1, a2] [.bslc (BR.root 0) (.u8 v1), .bslc (BR.root 1) (.u8 v2)] (fun F' h0 hi hρ => ⟨by simp [DVs.av, DV.av, BR.av, hρ], laws_FnNorms_fn v1 v2 F' (st_nil hi) ⟨bslc_ok hi (by rw [h0, hρ]; exact rowU8_ok hs (DVs.okAt ha 0 rfl) hv1), bslc_ok hi (by rw [h0, hρ]; exact rowU8_ok hs (DVs.okAt ha 1 rfl) hv2), trivial⟩ hy⟩) rfl
  · cases hr
/-! laws.r8Long -/
noncomputable def laws_r8Long_len_LO (v839 v840 : Nat) : LOr := fun id e L =>
  match id with
  | _ => .fail
noncomputable def laws_r8Long_len_tab : List (FuncId × DFn × Bool) := []
theorem laws_r8Long_len_hO : OrcOk Try.prog (tabD laws_r8Long_len_tab) (tabM laws_r8Long_len_tab) := tabD_nil _
noncomputable def laws_r8Long_len_T (v839 v840 : Nat) : Tree (Bool) :=
  (.br (decide ((48 : Int) < ((v839 : Nat) : Int))) (
  .leaf true
  ) (
  .leaf (decide ((48 : Int) < ((v840 : Nat) : Int)))
  ))

noncomputable def laws_r8Long_len_g (v839 v840 : Nat) : Option (Bool) := (laws_r8Long_len_T v839 v840).run
def laws_r8Long_len_enc (v839 v840 : Nat) (y : Bool) : Rs := (.bool y, [])
theorem laws_r8Long_len_den (v839 v840 : Nat) : (den TT (tabD laws_r8Long_len_tab) (tabM laws_r8Long_len_tab) (laws_r8Long_len_LO v839 v840) (codeOf Try.f4) ([.hslc (BR.root 0) v839, .hslc (BR.root 1) v840] ++ List.replicate (Try.f4.ntmps - ([.hslc (BR.root 0) v839, .hslc (BR.root 1) v840] : List DV).length) .undef) []).bind (retD TT Try.f4.results.toList 0) = (laws_r8Long_len_T v839 v840).bind fun y => .leaf (laws_r8Long_len_enc v839 v840 y) := by kernel_rfl
theorem laws_r8Long_len_fn (v839 v840 : Nat) (F : Fr) (h0 : St F [] F.H0) (hA : DVs.Ok F [] [.hslc (BR.root 0) v839, .hslc (BR.root 1) v840]) {y : Bool} (hy : laws_r8Long_len_g v839 v840 = some y) : ∃ F' H', Fwd 0 F F' [] (laws_r8Long_len_enc v839 v840 y).2 ∧ FnOk Try.prog 4 (DVs.av F [.hslc (BR.root 0) v839, .hslc (BR.root 1) v840]) F.H0 ((laws_r8Long_len_enc v839 v840 y).1.av F') H' ∧ St F' (laws_r8Long_len_enc v839 v840 y).2 H' ∧ (laws_r8Long_len_enc v839 v840 y).1.Ok F' (laws_r8Long_len_enc v839 v840 y).2 :=
  fn_fin tok laws_r8Long_len_hO mixed Try.func4 Try.call4 (by kernel_rfl) (LoopsOk_eq (l := []) (by kernel_rfl) trivial) (laws_r8Long_len_den v839 v840) hy h0 hA
def laws_r8Long_len_v (v839 v840 : Nat) : Bool :=
  if (decide ((48 : Int) < ((v839 : Nat) : Int))) = true then (
  true
  ) else (
  decide ((48 : Int) < ((v840 : Nat) : Int))
  )
theorem laws_r8Long_len_tot (v839 v840 : Nat) : laws_r8Long_len_g v839 v840 = some (laws_r8Long_len_v v839 v840) := by
  unfold laws_r8Long_len_g laws_r8Long_len_T laws_r8Long_len_v
  simp only [Tree.run]
  repeat' (first | rfl | split)
noncomputable def laws_r8Long_len_F : DFn := fun args L =>
  match args with
  | [a1, a2] =>
    optT (lenV L a1) fun v839 =>
    optT (lenV L a2) fun v840 =>
    .leaf (.bool (laws_r8Long_len_v v839 v840), L)
  | _ => .fail
theorem laws_r8Long_len_Fok : COk Try.prog 4 laws_r8Long_len_F true := by
  intro F L H args r L' hs ha hr
  unfold laws_r8Long_len_F at hr
  split at hr
  · rename_i a1 a2
    obtain ⟨v839, hv839, hr⟩ := optT_run hr
    obtain ⟨v840, hv840, hr⟩ := optT_run hr
    have hy := laws_r8Long_len_tot v839 v840
    generalize laws_r8Long_len_v v839 v840 = y at hy hr
    simp only [Tree.run, Option.some.injEq, Prod.mk.injEq] at hr
    obtain ⟨rfl, rfl⟩ := hr
    exact call_ok0 hs (fun k => (([a1.av F, a2.av F] : List AV)[k]?).getD .top) [a1, a2] [.hslc (BR.root 0) v839, .hslc (BR.root 1) v840] (fun F' h0 hi hρ => ⟨by simp [DVs.av, DV.av, BR.av, hρ], laws_r8Long_len_fn v839 v840 F' (st_nil hi) ⟨hslc_ok hi (by rw [h0, hρ]; exact lenV_ok hs (DVs.okAt ha 0 rfl) hv839), hslc_ok hi (by rw [h0, hρ]; exact lenV_ok hs (DVs.okAt ha 1 rfl) hv840), trivial⟩ hy⟩) rfl
  · cases hr
/-! laws.FnNorms -/
noncomputable def laws_FnNorms_len_LO (v837 v838 : Nat) : LOr := fun id e L =>
  match id with
  | _ => .fail
noncomputable def laws_FnNorms_len_tab : List (FuncId × DFn × Bool) := [(4, laws_r8Long_len_F, true)]
theorem laws_FnNorms_len_hO : OrcOk Try.prog (tabD laws_FnNorms_len_tab) (tabM laws_FnNorms_len_tab) := tabD_cons laws_r8Long_len_Fok (tabD_nil _)
noncomputable def laws_FnNorms_len_T (v837 v838 : Nat) : Tree (Bool) :=
  (.br (laws_r8Long_len_v v837 v838) (
  .leaf true
  ) (
  .fail
  ))

noncomputable def laws_FnNorms_len_g (v837 v838 : Nat) : Option (Bool) := (laws_FnNorms_len_T v837 v838).run
def laws_FnNorms_len_enc (v837 v838 : Nat) (y : Bool) : Rs := (.bool y, [])
theorem laws_FnNorms_len_den (v837 v838 : Nat) : (den TT (tabD laws_FnNorms_len_tab) (tabM laws_FnNorms_len_tab) (laws_FnNorms_len_LO v837 v838) (codeOf Try.f3) ([.hslc (BR.root 0) v837, .hslc (BR.root 1) v838] ++ List.replicate (Try.f3.ntmps - ([.hslc (BR.root 0) v837, .hslc (BR.root 1) v838] : List DV).length) .undef) []).bind (retD TT Try.f3.results.toList 0) = (laws_FnNorms_len_T v837 v838).bind fun y => .leaf (laws_FnNorms_len_enc v837 v838 y) := by kernel_rfl
theorem laws_FnNorms_len_u0_ok (v837 v838 : Nat) : LSound Try.prog 0 (laws_FnNorms_len_LO v837 v838) 0 (bodyOf Try.f3 0) := fun e L out h => absurd (show (none : Option Out) = some out from h) (by simp)
theorem laws_FnNorms_len_u2_ok (v837 v838 : Nat) : LSound Try.prog 0 (laws_FnNorms_len_LO v837 v838) 2 (bodyOf Try.f3 2) := fun e L out h => absurd (show (none : Option Out) = some out from h) (by simp)
theorem laws_FnNorms_len_u4_ok (v837 v838 : Nat) : LSound Try.prog 0 (laws_FnNorms_len_LO v837 v838) 4 (bodyOf Try.f3 4) := fun e L out h => absurd (show (none : Option Out) = some out from h) (by simp)
theorem laws_FnNorms_len_u6_ok (v837 v838 : Nat) : LSound Try.prog 0 (laws_FnNorms_len_LO v837 v838) 6 (bodyOf Try.f3 6) := fun e L out h => absurd (show (none : Option Out) = some out from h) (by simp)
theorem laws_FnNorms_len_fn (v837 v838 : Nat) (F : Fr) (h0 : St F [] F.H0) (hA : DVs.Ok F [] [.hslc (BR.root 0) v837, .hslc (BR.root 1) v838]) {y : Bool} (hy : laws_FnNorms_len_g v837 v838 = some y) : ∃ F' H', Fwd 0 F F' [] (laws_FnNorms_len_enc v837 v838 y).2 ∧ FnOk Try.prog 3 (DVs.av F [.hslc (BR.root 0) v837, .hslc (BR.root 1) v838]) F.H0 ((laws_FnNorms_len_enc v837 v838 y).1.av F') H' ∧ St F' (laws_FnNorms_len_enc v837 v838 y).2 H' ∧ (laws_FnNorms_len_enc v837 v838 y).1.Ok F' (laws_FnNorms_len_enc v837 v838 y).2 :=
  fn_fin tok laws_FnNorms_len_hO mixed Try.func3 Try.call3 (by kernel_rfl) (LoopsOk_eq (l := [(0, bodyOf Try.f3 0), (2, bodyOf Try.f3 2), (4, bodyOf Try.f3 4), (6, bodyOf Try.f3 6)]) (by kernel_rfl) ⟨laws_FnNorms_len_u0_ok v837 v838, laws_FnNorms_len_u2_ok v837 v838, laws_FnNorms_len_u4_ok v837 v838, laws_FnNorms_len_u6_ok v837 v838, trivial⟩) (laws_FnNorms_len_den v837 v838) hy h0 hA
noncomputable def laws_FnNorms_len_F : DFn := fun args L =>
  match args with
  | [a1, a2] =>
    optT (lenV L a1) fun v837 =>
    optT (lenV L a2) fun v838 =>
    .call (laws_FnNorms_len_g v837 v838) fun y => .leaf (.bool y, L)
  | _ => .fail
theorem laws_FnNorms_len_Fok : COk Try.prog 3 laws_FnNorms_len_F true := by
  intro F L H args r L' hs ha hr
  unfold laws_FnNorms_len_F at hr
  split at hr
  · rename_i a1 a2
    obtain ⟨v837, hv837, hr⟩ := optT_run hr
    obtain ⟨v838, hv838, hr⟩ := optT_run hr
    simp only [Tree.run] at hr
    obtain ⟨y, hy, hr⟩ := Option.bind_eq_some_iff.1 hr
    simp only [Tree.run, Option.some.injEq, Prod.mk.injEq] at hr
    obtain ⟨rfl, rfl⟩ := hr
    exact call_ok0 hs (fun k => (([a1.av F, a2.av F] : List AV)[k]?).getD .top) [a1, a2] [.hslc (BR.root 0) v837, .hslc (BR.root 1) v838] (fun F' h0 hi hρ => ⟨by simp [DVs.av, DV.av, BR.av, hρ], laws_FnNorms_len_fn v837 v838 F' (st_nil hi) ⟨hslc_ok hi (by rw [h0, hρ]; exact lenV_ok hs (DVs.okAt ha 0 rfl) hv837), hslc_ok hi (by rw [h0, hρ]; exact lenV_ok hs (DVs.okAt ha 1 rfl) hv838), trivial⟩ hy⟩) rfl
  · cases hr
end Go.Proofs.Ytbnakafnaeafiaa.AM
