/- The machine's words for simp: one step at a time, nothing done ahead of its turn (what comes later stands as data, never under a binder). -/
import Derived.Test.YthdmkdkbfhoahaaD17
set_option linter.unusedSimpArgs false
set_option linter.unusedVariables false
namespace Go.Proofs.Ythdmkdkbfhoahaa.AM

/-! one operation -/
def mapV (H : Heap) : Option AV → Option (AV × Heap)
  | some v => some (v, H)
  | none => none
@[simp] theorem mapV_some (H : Heap) (v : AV) : mapV H (some v) = some (v, H) := rfl
@[simp] theorem mapV_none (H : Heap) : mapV H none = none := rfl
theorem mapV_eq (H : Heap) (o : Option AV) : (o.map fun v => (v, H)) = mapV H o := by cases o <;> rfl
def mapH : Option Heap → Option (AV × Heap)
  | some H => some (.top, H)
  | none => none
@[simp] theorem mapH_some (H : Heap) : mapH (some H) = some (.top, H) := rfl
theorem mapH_eq (o : Option Heap) : (o.map fun H => ((.top : AV), H)) = mapH o := by cases o <;> rfl
def pickA (H : Heap) (x y : AV) : AV → Option (AV × Heap)
  | .bool t => some (if t = true then x else y, H)
  | _ => none
@[simp] theorem pickA_bool (H : Heap) (x y : AV) (t : Bool) : pickA H x y (.bool t) = some (if t = true then x else y, H) := rfl
def extA (H : Heap) (i : Nat) : AV → Option (AV × Heap)
  | .tup vs => mapV H vs[i]?
  | _ => none
@[simp] theorem extA_tup (H : Heap) (i : Nat) (vs : List AV) : extA H i (.tup vs) = mapV H vs[i]? := rfl
def callV (O : Oracle) (H : Heap) (args : List AV) : AV → Option (AV × Heap)
  | .fn g caps => O g (args ++ caps) H
  | _ => none
@[simp] theorem callV_fn (O : Oracle) (H : Heap) (args : List AV) (g : FuncId) (caps : List AV) : callV O H args (.fn g caps) = O g (args ++ caps) H := rfl
def wantB (w : Bool) : Option AV → Option Bool
  | some (.bool b) => some (b == w)
  | some .undef => some false
  | _ => none
@[simp] theorem wantB_bool (w b : Bool) : wantB w (some (.bool b)) = some (b == w) := rfl
@[simp] theorem wantB_undef (w : Bool) : wantB w (some .undef) = some false := rfl
def dstOf : Option Oper → Env → Option AV
  | some o, env => match o.dst with | some d => env[d]? | none => none
  | none, _ => none
@[simp] theorem dstOf_some (d : Tmp) (op : Op) (t : TypeId) (p : String) (a : Array Edge) (g : Option (Nat × Bool)) (env : Env) : dstOf (some ⟨some d, op, t, p, a, g⟩) env = env[d]? := rfl

section
variable (P : Program) (O : Oracle) (env : Env) (H : Heap) (ops : Array Oper) (d : Option Tmp) (ty : TypeId) (p : String) (a : Array Edge) (g : Option (Nat × Bool)) (op : Op)
@[simp] theorem want_none : wantA ops env ⟨d, op, ty, p, a, none⟩ = some true := rfl
@[simp] theorem want_some (j : Nat) (w : Bool) : wantA ops env ⟨d, op, ty, p, a, some (j, w)⟩ = wantB w (dstOf ops[j]? env) := by
  simp only [wantA]
  cases ops[j]? with
  | none => rfl
  | some o =>
    simp only [Option.bind_some, dstOf]
    cases o.dst with
    | none => rfl
    | some d =>
      simp only
      cases env[d]? with
      | none => rfl
      | some v => cases v <;> rfl
@[simp] theorem evA_tmp (t : Tmp) : evA env (.tmp t) = (env[t]?).getD .top := rfl
@[simp] theorem evA_const (v : Value) : evA env (.const v) = absV v := rfl
@[simp] theorem evA_func (f : FuncId) : evA env (.func f) = .fn f [] := rfl
@[simp] theorem op_move (x : Operand) : opA P O env H ⟨d, .move x, ty, p, a, g⟩ = some (evA env x, H) := rfl
@[simp] theorem op_assign (x : Operand) : opA P O env H ⟨d, .assign x, ty, p, a, g⟩ = some (evA env x, H) := rfl
@[simp] theorem op_pick (c x y : Operand) : opA P O env H ⟨d, .pick c x y, ty, p, a, g⟩ = pickA H (evA env x) (evA env y) (evA env c) := by
  simp only [opA]; cases evA env c <;> rfl
@[simp] theorem op_alloc (e : TypeId) : opA P O env H ⟨d, .alloc e, ty, p, a, g⟩ = (zeroA P e).bind fun z => z.cellsA.bind fun cs => (newA H cs 1 (flatT P e)).map fun r => (.ptr r.1, r.2) := rfl
@[simp] theorem op_box (e : TypeId) (x : Operand) : opA P O env H ⟨d, .box e x, ty, p, a, g⟩ = (evA env x).cellsA.bind fun cs => if cs.all (cellOk H) = true then (newA H cs 1 (flatT P e)).map fun r => (.ptr r.1, r.2) else none := rfl
@[simp] theorem op_build (t : TypeId) (parts : Array (Nat × Operand)) : opA P O env H ⟨d, .build t parts, ty, p, a, g⟩ = mapV H (buildA P H t (parts.toList.map fun q => (q.1, evA env q.2))) := mapV_eq _ _
theorem op_buildSlice (t : TypeId) (len : Nat) (parts : Array (Nat × Operand)) : opA P O env H ⟨d, .buildSlice t len parts, ty, p, a, g⟩ =
    (buildSliceA P H t len (parts.toList.map fun q => (q.1, evA env q.2))).bind fun q => (newA H q.1 q.2.1 q.2.2).map fun r => (.slc r.1 len, r.2) := rfl
@[simp] theorem op_load (t : TypeId) (x : Operand) : opA P O env H ⟨d, .load t x, ty, p, a, g⟩ = mapV H (loadA P H t (evA env x)) := mapV_eq _ _
@[simp] theorem op_store (t : TypeId) (x y : Operand) : opA P O env H ⟨d, .store t x y, ty, p, a, g⟩ = mapH (storeA P H t (evA env x) (evA env y)) := mapH_eq _
@[simp] theorem op_bin (o : BinOp) (t : TypeId) (x y : Operand) (u : TypeId) : opA P O env H ⟨d, .binOp o t x y u, ty, p, a, g⟩ = mapV H (binA P H o t (evA env x) (evA env y)) := mapV_eq _ _
@[simp] theorem op_un (o : UnOp) (t : TypeId) (x : Operand) : opA P O env H ⟨d, .unOp o t x, ty, p, a, g⟩ = mapV H (unA o (evA env x)) := mapV_eq _ _
@[simp] theorem op_convert (s t : TypeId) (x : Operand) : opA P O env H ⟨d, .convert s t x, ty, p, a, g⟩ = convH P H s t (evA env x) := rfl
@[simp] theorem op_makeSlice (t : TypeId) (l c : Operand) : opA P O env H ⟨d, .makeSlice t l c, ty, p, a, g⟩ = makeA P H t (evA env l) (evA env c) := rfl
@[simp] theorem op_slice (t : TypeId) (x : Operand) (lo hi : Option Operand) : opA P O env H ⟨d, .slice t x lo hi none, ty, p, a, g⟩ = mapV H (sliceA P H t (evA env x) (lo.map (evA env)) (hi.map (evA env))) := mapV_eq _ _
@[simp] theorem op_fieldAddr (s : TypeId) (x : Operand) (f : Nat) : opA P O env H ⟨d, .fieldAddr s x f, ty, p, a, g⟩ = mapV H (fieldAddrA P H s (evA env x) f) := mapV_eq _ _
@[simp] theorem op_field (s : TypeId) (x : Operand) (f : Nat) : opA P O env H ⟨d, .field s x f, ty, p, a, g⟩ = mapV H (fieldA P s (evA env x) f) := mapV_eq _ _
@[simp] theorem op_indexAddr (t : TypeId) (x y : Operand) : opA P O env H ⟨d, .indexAddr t x y, ty, p, a, g⟩ = mapV H (indexAddrA P H t (evA env x) (evA env y)) := mapV_eq _ _
@[simp] theorem op_index (t : TypeId) (x y : Operand) : opA P O env H ⟨d, .index t x y, ty, p, a, g⟩ = mapV H (indexA P t (evA env x) (evA env y)) := mapV_eq _ _
@[simp] theorem op_extract (x : Operand) (i : Nat) : opA P O env H ⟨d, .extract x i, ty, p, a, g⟩ = extA H i (evA env x) := by
  simp only [opA]; cases evA env x <;> first | rfl | exact mapV_eq _ _
@[simp] theorem op_builtin (b : Builtin) (args : Array Operand) (ts : Array TypeId) : opA P O env H ⟨d, .call { callee := .builtin b, args := args, argTypes := ts }, ty, p, a, g⟩ = builtinA P H b ts.toList (args.toList.map (evA env)) := rfl
@[simp] theorem op_call (f : Operand) (args : Array Operand) (ts : Array TypeId) : opA P O env H ⟨d, .call { callee := .value f, args := args, argTypes := ts }, ty, p, a, g⟩ = callV O H (args.toList.map (evA env)) (evA env f) := by
  simp only [opA, callA]; cases evA env f <;> rfl
@[simp] theorem op_nilCheck (x : Operand) : opA P O env H ⟨d, .nilCheck x, ty, p, a, g⟩ = (match evA env x with
    | .ptr r => if live H r then some (.ptr r, H) else none
    | .fn f cs => some (.fn f cs, H)
    | _ => none) := rfl
@[simp] theorem op_makeFunc (f : FuncId) (first : Array Operand) (cap : Array Operand) : opA P O env H ⟨d, .makeFunc (.func f) first cap, ty, p, a, g⟩ = if first.size = 0 then some (.fn f (cap.toList.map (evA env)), H) else none := rfl
end
def putO (e : Env) (d : Option Tmp) : Option (AV × Heap) → Option (Env × Heap)
  | some r => some (putA e d r.1, r.2)
  | none => none
@[simp] theorem putO_some (e : Env) (d : Option Tmp) (x : AV) (H : Heap) : putO e d (some (x, H)) = some (putA e d x, H) := rfl
def stepW (P : Program) (O : Oracle) (e : Env) (H : Heap) (o : Oper) : Option Bool → Option (Env × Heap)
  | some true => putO e o.dst (opA P O e H o)
  | some false => some (putA e o.dst .undef, H)
  | none => none
@[simp] theorem stepW_true (P : Program) (O : Oracle) (e : Env) (H : Heap) (o : Oper) : stepW P O e H o (some true) = putO e o.dst (opA P O e H o) := rfl
@[simp] theorem stepW_false (P : Program) (O : Oracle) (e : Env) (H : Heap) (o : Oper) : stepW P O e H o (some false) = some (putA e o.dst .undef, H) := rfl
/-- The rest of a region, from where one stands. -/
def goR (P : Program) (O : Oracle) (ops : Array Oper) (l : List Oper) : Option (Env × Heap) → Option (Env × Heap)
  | some s => runSeq P O ops l s.1 s.2
  | none => none
@[simp] theorem goR_nil (P : Program) (O : Oracle) (ops : Array Oper) (e : Env) (H : Heap) : goR P O ops [] (some (e, H)) = some (e, H) := rfl
@[simp] theorem goR_cons (P : Program) (O : Oracle) (ops : Array Oper) (o : Oper) (l : List Oper) (e : Env) (H : Heap) : goR P O ops (o :: l) (some (e, H)) = goR P O ops l (stepW P O e H o (wantA ops e o)) := by
  simp only [goR]
  rw [runSeq]
  cases wantA ops e o with
  | none => rfl
  | some b =>
    cases b with
    | true =>
      simp only [stepW]
      cases opA P O e H o <;> rfl
    | false => rfl
def endR (Q : QA) : Option (Env × Heap) → Prop
  | some s => Q .normal s.1 s.2
  | none => False
@[simp] theorem endR_some (Q : QA) (e : Env) (H : Heap) : endR Q (some (e, H)) = Q .normal e H := rfl
def condQ (P : Program) (O : Oracle) (nb : Nat) (a b : Code) (Q : QA) (e : Env) (H : Heap) : AV → Prop
  | .bool true => awp P O nb a Q e H
  | .bool false => awp P O nb b Q e H
  | _ => False
@[simp] theorem condQ_true (P : Program) (O : Oracle) (nb : Nat) (a b : Code) (Q : QA) (e : Env) (H : Heap) : condQ P O nb a b Q e H (.bool true) = awp P O nb a Q e H := rfl
@[simp] theorem condQ_false (P : Program) (O : Oracle) (nb : Nat) (a b : Code) (Q : QA) (e : Env) (H : Heap) : condQ P O nb a b Q e H (.bool false) = awp P O nb b Q e H := rfl
theorem condQ_bool {P : Program} {O : Oracle} {nb : Nat} {a b : Code} {Q : QA} {e : Env} {H : Heap} (t : Bool) (h1 : t = true → awp P O nb a Q e H) (h2 : t = false → awp P O nb b Q e H) : condQ P O nb a b Q e H (.bool t) := by
  cases t
  · exact h2 rfl
  · exact h1 rfl
def tabB (F : List AV → Heap → Option (AV × Heap)) (l : List (FuncId × (List AV → Heap → Option (AV × Heap)))) (f : FuncId) (args : List AV) (H : Heap) : Bool → Option (AV × Heap)
  | true => F args H
  | false => tab l f args H
@[simp] theorem tabB_true (F : List AV → Heap → Option (AV × Heap)) (l : List (FuncId × (List AV → Heap → Option (AV × Heap)))) (f : FuncId) (args : List AV) (H : Heap) : tabB F l f args H true = F args H := rfl
@[simp] theorem tabB_false (F : List AV → Heap → Option (AV × Heap)) (l : List (FuncId × (List AV → Heap → Option (AV × Heap)))) (f : FuncId) (args : List AV) (H : Heap) : tabB F l f args H false = tab l f args H := rfl
@[simp] theorem tab_look (g : FuncId) (F : List AV → Heap → Option (AV × Heap)) (l : List (FuncId × (List AV → Heap → Option (AV × Heap)))) (f : FuncId) (args : List AV) (H : Heap) : tab ((g, F) :: l) f args H = tabB F l f args H (f == g) := by
  simp only [tab, tabB]
  by_cases h : f = g
  · simp [h]
  · have : (f == g) = false := by simpa using h
    simp [h, this]
def swB {α : Type} (b : Bool) (x y : α) : α := match b with | true => x | false => y
@[simp] theorem swB_true {α : Type} (x y : α) : swB true x y = x := rfl
@[simp] theorem swB_false {α : Type} (x y : α) : swB false x y = y := rfl
def exitB (Q : QA) (i : Nat) (e : Env) (H : Heap) : Bool → Prop
  | true => Q .normal e H
  | false => Q (.exit i) e H
@[simp] theorem exitB_true (Q : QA) (i : Nat) (e : Env) (H : Heap) : exitB Q i e H true = Q .normal e H := rfl
@[simp] theorem exitB_false (Q : QA) (i : Nat) (e : Env) (H : Heap) : exitB Q i e H false = Q (.exit i) e H := rfl

section
variable {P : Program} {O : Oracle} {nb : Nat} {Q : QA} {e e' : Env} {H H' : Heap}
@[simp] theorem awp_region (i : Nat) (ops : Array Oper) : awp P O nb (.region i ops false) Q e H = endR Q (goR P O ops ops.toList (some (e, H))) := by
  simp only [awp, endR, goR]; cases runSeq P O ops ops.toList e H <;> rfl
@[simp] theorem awp_draws (i : Nat) (ops : Array Oper) : awp P O nb (.region i ops true) Q e H = TW P nb (.region i ops true) Q e H := rfl
@[simp] theorem awp_seq (a b : Code) : awp P O nb (.seq a b) Q e H = awp P O nb a (seqQ (awp P O nb b Q) Q) e H := rfl
@[simp] theorem awp_cond (c : Operand) (a b : Code) : awp P O nb (.cond c a b) Q e H = condQ P O nb a b Q e H (evA e c) := by
  simp only [awp, condQ]
  cases evA e c with
  | bool t => cases t <;> simp [condQ]
  | _ => rfl
@[simp] theorem awp_skip : awp P O nb .skip Q e H = Q .normal e H := rfl
@[simp] theorem awp_block (id : Nat) (b : Code) : awp P O nb (.block id b) Q e H = awp P O nb b (blockQ id Q) e H := rfl
@[simp] theorem awp_loop (b : Code) : awp P O nb (.loop b) Q e H = TW P nb (.loop b) Q e H := rfl
@[simp] theorem awp_exit (id : Nat) : awp P O nb (.exit id) Q e H = Q (.exit id) e H := rfl
@[simp] theorem awp_ret : awp P O nb .ret Q e H = Q .ret e H := rfl
@[simp] theorem seqQ_normal (K : Env → Heap → Prop) : seqQ K Q .normal e H = K e H := rfl
@[simp] theorem seqQ_ret (K : Env → Heap → Prop) : seqQ K Q .ret e H = Q .ret e H := rfl
@[simp] theorem seqQ_exit (K : Env → Heap → Prop) (i : Nat) : seqQ K Q (.exit i) e H = Q (.exit i) e H := rfl
@[simp] theorem blockQ_normal (id : Nat) : blockQ id Q .normal e H = Q .normal e H := rfl
@[simp] theorem blockQ_ret (id : Nat) : blockQ id Q .ret e H = Q .ret e H := rfl
@[simp] theorem blockQ_exit (id i : Nat) : blockQ id Q (.exit i) e H = exitB Q i e H (i == id) := by
  by_cases h : i = id
  · subst h; simp [blockQ, exitB]
  · have : (i == id) = false := by simpa using h
    simp [blockQ, h, this, exitB]

end
end Go.Proofs.Ythdmkdkbfhoahaa.AM
