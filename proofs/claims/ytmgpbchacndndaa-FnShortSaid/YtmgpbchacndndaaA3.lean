import Derived.Test.YtmgpbchacndndaaA2
import Derived.Laws.BytesArg
import Derived.Lib.ConvBytes
set_option linter.unusedSimpArgs false
set_option linter.unusedVariables false
namespace Go.Proofs.Ytmgpbchacndndaa.AM
abbrev A0_ := FuncId → List AV → Heap → Option (AV × Heap)
def valA : Sem Value → Option AV
  | .pure (.bool b) => some (.bool b)
  | .pure (.int k n) => some (.int k n)
  | .pure (.string s) => some (.str s)
  | _ => none
def fres (k : FloatKind) (r : Option Nat) : Nat := (r.map (canon k)).getD (qnan k)
def fadd (k : FloatKind) (x y : Nat) : Nat := fres k (k.format.add x y)
def fsub (k : FloatKind) (x y : Nat) : Nat := fres k (k.format.sub x y)
def fmul (k : FloatKind) (x y : Nat) : Nat := fres k (k.format.mul x y)
def fdiv (k : FloatKind) (x y : Nat) : Nat := fres k (k.format.div x y)
def feq (k : FloatKind) (x y : Nat) : Bool := k.format.order x y == some .eq
def fless (k : FloatKind) (x y : Nat) : Bool := k.format.order x y == some .lt
def fgrt (k : FloatKind) (x y : Nat) : Bool := k.format.order x y == some .gt
def fneg (k : FloatKind) (x : Nat) : Nat := canon k (Op.negFloat k x)
def Bm_ (k : FloatKind) (n : Int) : Nat := canon k (k.nearest n)
def fconv (src : FloatKind) (x : Nat) (dst : FloatKind) : Option Nat :=
  if src = dst then some x else
  match src.decode x with
  | .nan _ _ => some (qnan dst)
  | .infinity s => some (canon dst (dst.encode (.infinity s)))
  | .number s m e =>
    if (dst.decode (dst.encode (.number s m e))).isInfinity then none else some (canon dst (dst.encode (.number s m e)))
def Cn_ (src : FloatKind) (x : Nat) (dst : IntKind) : Option Int :=
  match (src.decode x).toInt .zero with
  | some n => if dst.min ≤ n ∧ n ≤ dst.max then some n else none
  | none => none
def fbin (op : BinOp) (k : FloatKind) (x y : Nat) : Option AV :=
  match op with
  | .add => some (.flt k (fadd k x y))
  | .sub => some (.flt k (fsub k x y))
  | .mul => some (.flt k (fmul k x y))
  | .quo => some (.flt k (fdiv k x y))
  | .eql => some (.bool (feq k x y))
  | .neq => some (.bool (!feq k x y))
  | .lss => some (.bool (fless k x y))
  | .leq => some (.bool (fless k x y || feq k x y))
  | .gtr => some (.bool (fgrt k x y))
  | .geq => some (.bool (fgrt k x y || feq k x y))
  | _ => none
def live (H : Heap) (r : Ref) : Bool :=
  match H[r.id]? with
  | some B => r.ver == B.cells.length
  | none => false
def binA (P : Program) (H : Heap) (op : BinOp) (t : TypeId) (x y : AV) : Option AV :=
  match x, y with
  | .int k a, .int k' b => valA (Go.binOp op 0 (.int k a) (.int k' b))
  | .flt k a, .flt k' b => if k = k' then fbin op k a b else none
  | .str a, .str b => valA (Op.stringOp op a b)
  | .bool a, .bool b =>
    match P.underlying t, op with
    | some .bool, .eql => some (.bool (a == b))
    | some .bool, .neq => some (.bool (!(a == b)))
    | _, _ => none
  | .nilslc, .nilslc =>
    match P.underlying t, op with
    | some (.slice _), .eql => some (.bool true)
    | some (.slice _), .neq => some (.bool false)
    | _, _ => none
  | .slc r _, .nilslc =>
    match P.underlying t, op with
    | some (.slice _), .eql => if live H r then some (.bool false) else none
    | some (.slice _), .neq => if live H r then some (.bool true) else none
    | _, _ => none
  | _, _ => none
def unA (op : UnOp) (x : AV) : Option AV :=
  match x with
  | .int k a => valA (Op.unary op (.int k a))
  | .bool a => valA (Op.unary op (.bool a))
  | .flt k a => match op with
    | .neg => some (.flt k (fneg k a))
    | _ => none
  | _ => none
def C8_ : List AV → Option (List Int)
  | [] => some []
  | .int .u8 n :: l => (C8_ l).map (n :: ·)
  | _ => none
def Bk_ (s : ByteArray) : List AV := s.data.toList.map fun b => .int .u8 b.toNat
def convA (P : Program) (src dst : TypeId) (x : AV) : Option AV :=
  match P.underlying src, P.underlying dst, x with
  | some _, some (.int k), .int _ n => some (.int k (k.wrap n))
  | some _, some (.float k), .int _ n => some (.flt k (Bm_ k n))
  | some _, some (.int k), .flt s b => (Cn_ s b k).map (AV.int k)
  | some _, some (.float k), .flt s b => (fconv s b k).map (AV.flt k)
  | some _, some .string, .str s => some (.str s)
  | _, _, _ => none
def szA (P : Program) (t : TypeId) : Option Nat := (P.info? t).map (·.size)
def rdS (H : Heap) : AV → Option (List AV)
  | .nilslc => some []
  | .slc r n =>
    match H[r.id]? with
    | some B => if r.ver = B.cells.length ∧ r.off + n * B.sz ≤ B.cells.length then some ((B.cells.drop r.off).take (n * B.sz)) else none
    | none => none
  | _ => none
def convB (P : Program) (H : Heap) (src dst : TypeId) (x : AV) : Option (AV × Heap) :=
  match P.underlying src, P.underlying dst with
  | some su, some (.slice e) =>
    match P.underlying e with
    | some (.int .u8) =>
      match su, x with
      | .slice _, .slc r n => if src = dst ∧ 0 < n then (match H[r.id]? with | some B => if r.ver = B.cells.length ∧ B.own = true then some (.slc r n, H) else none | none => none) else none
      | _, .str b => some (.slc ⟨H.length, 0, b.size⟩ b.size, H ++ [⟨Bk_ b, true, 1, true⟩])
      | _, _ => none
    | _ => none
  | _, _ => none
def convS (P : Program) (H : Heap) (src dst : TypeId) (x : AV) : Option AV :=
  match P.underlying src, P.underlying dst with
  | some (.slice e), some .string =>
    match P.underlying e with
    | some (.int .u8) => (rdS H x).bind fun cs => (C8_ cs).bind fun xs => match x with | .slc r n => (match H[r.id]? with | some B => if B.sz = 1 then some (.str (strOfNums xs)) else none | none => none) | _ => some (.str (strOfNums xs))
    | _ => none
  | _, _ => none
def convH (P : Program) (H : Heap) (src dst : TypeId) (x : AV) : Option (AV × Heap) :=
  if dst = Ge_ then convB P H src dst x else
  match x with
  | .slc _ _ | .nilslc => (convS P H src dst x).map fun v => (v, H)
  | _ => (convA P src dst x).map fun v => (v, H)
def ldN (H : Heap) (r : Ref) (n : Nat) : Option (List AV) :=
  match H[r.id]? with
  | some B => if r.ver = B.cells.length ∧ r.off + n ≤ B.cells.length then some ((B.cells.drop r.off).take n) else none
  | none => none
def ldC (H : Heap) (r : Ref) : Option AV :=
  match H[r.id]? with
  | some B => if r.ver = B.cells.length then B.cells[r.off]? else none
  | none => none
def loadA (P : Program) (H : Heap) (t : TypeId) (x : AV) : Option AV :=
  match x with
  | .ptr r =>
    match P.underlying t with
    | some (.struct _) => (szA P t).bind fun n => (ldN H r n).map AV.agg
    | some (.array _ _) => none
    | some _ => ldC H r
    | none => none
  | _ => none
def AV.cellsA : AV → Option (List AV)
  | .top => none
  | .undef => none
  | .agg cs => some cs
  | .tup _ => none
  | v => some [v]
def A5_ (H : Heap) : AV → Bool
  | .top | .undef | .agg _ | .tup _ => false
  | .ptr r => live H r
  | .slc r _ => live H r
  | _ => true
def putAt (l : List AV) (o : Nat) : List AV → List AV
  | [] => l
  | v :: vs => putAt (l.set o v) (o + 1) vs
def stN (H : Heap) (r : Ref) (vs : List AV) : Option Heap :=
  match H[r.id]? with
  | some B =>
    if B.own = true ∧ r.ver = B.cells.length ∧ r.off + vs.length ≤ B.cells.length ∧ (vs.all (A5_ H)) = true ∧ (B.flat = true → vs.all AV.isFlat = true) then
      some (H.set r.id { B with cells := putAt B.cells r.off vs }) else none
  | none => none
def Cx_ (P : Program) (H : Heap) (t : TypeId) (x v : AV) : Option Heap :=
  match x with
  | .ptr r => v.cellsA.bind fun cs => if szA P t = some cs.length then stN H r cs else none
  | _ => none
def flatT (P : Program) (t : TypeId) : Bool :=
  match P.info? t with
  | some i => !i.hasPointers
  | none => false
def newA (H : Heap) (cs : List AV) (sz : Nat) (flat : Bool) : Option (Ref × Heap) :=
  if (flat = true → cs.all AV.isFlat = true) then some (⟨H.length, 0, cs.length⟩, H ++ [⟨cs, true, sz, flat⟩]) else none
def zeroA (P : Program) (t : TypeId) : Option AV := ((P.info? t).bind (·.zero)).map absV
def lenS : AV → Option Nat
  | .nilslc => some 0
  | .slc _ n => some n
  | .str s => some s.size
  | _ => none
def elemA (P : Program) (t : TypeId) : Option TypeId :=
  match P.underlying t with
  | some (.slice e) => some e
  | _ => none
def appA (P : Program) (H : Heap) (e : TypeId) (s : AV) (n : Nat) (news : List AV) : Option (AV × Heap) :=
  (P.info? e).bind fun i => (i.zero).bind fun z =>
  if news.length = n * i.size ∧ 0 < i.size ∧ i.bytes ≤ 1024 ∧ z.cells.size = i.size ∧ news.all (A5_ H) = true then
    match s with
    | .nilslc =>
      if n = 0 then some (.nilslc, H) else
      if n ≤ 1073741824 then (newA H news i.size (!i.hasPointers)).map fun (r, H') => (.slc r n, H') else none
    | .slc r len =>
      match H[r.id]? with
      | some B =>
        if r.ver = B.cells.length ∧ B.own = true ∧ B.sz = i.size ∧ len + n ≤ 1073741824 ∧ (B.flat = true → news.all AV.isFlat = true) then
          if n = 0 then some (s, H) else
          if r.off = 0 ∧ len * i.size = B.cells.length then
            some (.slc ⟨r.id, 0, B.cells.length + news.length⟩ (len + n), H.set r.id { B with cells := B.cells ++ news })
          else if r.off + len * i.size + news.length ≤ B.cells.length then
            some (.slc r (len + n), H.set r.id { B with cells := putAt B.cells (r.off + len * i.size) news })
          else none
        else none
      | none => none
    | _ => none
  else none
def Dw_ (P : Program) (H : Heap) (t tx : TypeId) (s x : AV) : Option (AV × Heap) :=
  (elemA P t).bind fun e =>
  match P.underlying tx with
  | some (.slice _) => if t ≠ tx then none else (lenS x).bind fun n => (rdS H x).bind fun news => appA P H e s n news
  | some .string => (match x with | .str b => appA P H e s b.size (Bk_ b) | _ => none)
  | _ => none
def F1_ (P : Program) (H : Heap) (t : TypeId) (x : AV) : Option (AV × Heap) :=
  (elemA P t).bind fun e =>
  match x with
  | .nilslc => some (.tup [], H)
  | .slc r n =>
    match H[r.id]? with
    | some B =>
      if r.ver = B.cells.length then
        if n = 0 then some (.tup [], H) else
        (P.info? e).bind fun i => (i.zero).bind fun z =>
          if z.cells.size = 1 ∧ B.sz = 1 then (stN H r (List.replicate n (absC (z.cells.getD 0 undef)))).map fun H' => (.tup [], H') else none
      else none
    | none => none
  | _ => none
def copyA (P : Program) (H : Heap) (t : TypeId) (d x : AV) : Option (AV × Heap) :=
  (elemA P t).bind fun e =>
  match d with
  | .slc r n =>
    match H[r.id]? with
    | some B =>
      if r.ver = B.cells.length then
        (lenS x).bind fun m => (rdS H x).bind fun news =>
        if szA P e = some 1 ∧ B.sz = 1 ∧ news.length = m then
          if min m n = 0 then some (.int .i64 0, H) else
          (stN H r (news.take (min m n))).map fun H' => (.int .i64 ((min m n : Nat) : Int), H')
        else none
      else none
    | none => none
  | _ => none
def zeroCells (z : Value) (n : Nat) : List AV := (List.range (n * z.cells.size)).map fun p => absC (z.cells.getD (p % z.cells.size) undef)
theorem Aj9_ (z : Value) (n : Nat) (h : z.cells.size = 1) : zeroCells z n = List.replicate n (absC (z.cells.getD 0 undef)) := by
  unfold zeroCells
  rw [h, Nat.mul_one]
  refine List.ext_getElem? fun i => ?_
  rw [List.getElem?_map, List.getElem?_replicate]
  by_cases hi : i < n
  · rw [List.getElem?_range hi, if_pos hi, Option.map_some, Nat.mod_one]
  · rw [List.getElem?_eq_none (by simpa using hi), if_neg hi]; rfl
def makeA (P : Program) (H : Heap) (t : TypeId) (l c : AV) : Option (AV × Heap) :=
  (elemA P t).bind fun e => (P.info? e).bind fun i => (i.zero).bind fun z =>
  match l, c with
  | .int _ l, .int _ c =>
    if 0 ≤ l ∧ l = c ∧ c ≤ 1073741824 ∧ i.bytes ≤ 1024 ∧ 1 ≤ i.size ∧ z.cells.size = i.size then
      (newA H (zeroCells z c.toNat) i.size (!i.hasPointers)).map fun (r, H') => (.slc r c.toNat, H')
    else none
  | _, _ => none
def B3_ (P : Program) (s : TypeId) (f : Nat) : Option (Nat × TypeId) :=
  match P.underlying s with
  | some (.struct fields) => (fields[f]?).map fun f => (f.offset, f.type)
  | _ => none
def Ck_ (P : Program) (H : Heap) (s : TypeId) (x : AV) (f : Nat) : Option AV :=
  match x with
  | .ptr r => (B3_ P s f).bind fun (o, ft) => (szA P ft).bind fun n => if n = 0 then none else if live H r then some (.ptr ⟨r.id, r.off + o, r.ver⟩) else none
  | _ => none
def partA (P : Program) (t : TypeId) (cs : List AV) (off : Nat) : Option AV :=
  match P.underlying t with
  | some (.struct _) => (szA P t).map fun n => .agg ((cs.drop off).take n)
  | some (.array _ _) => none
  | some _ => cs[off]?
  | none => none
def H7_ (P : Program) (s : TypeId) (x : AV) (f : Nat) : Option AV :=
  match x with
  | .agg cs => (B3_ P s f).bind fun (o, ft) => partA P ft cs o
  | _ => none
def B1_ (P : Program) (H : Heap) (t : TypeId) (x ix : AV) : Option AV :=
  match x, ix with
  | .slc r n, .int _ i =>
    (elemA P t).bind fun e => (szA P e).bind fun sz =>
    match H[r.id]? with
    | some B => if r.ver = B.cells.length ∧ B.sz = sz ∧ 0 ≤ i ∧ i < n then some (.ptr ⟨r.id, r.off + i.toNat * sz, r.ver⟩) else none
    | none => none
  | _, _ => none
def Fa_ (P : Program) (t : TypeId) (x ix : AV) : Option AV :=
  match P.underlying t, x, ix with
  | some .string, .str s, .int _ i =>
    match (if 0 ≤ i then s[i.toNat]? else none) with
    | some b => some (.int .u8 b.toNat)
    | none => none
  | _, _, _ => none
def intOr (d : Int) : Option AV → Option Int
  | none => some d
  | some (.int _ n) => some n
  | _ => none
def Cg_ (P : Program) (H : Heap) (t : TypeId) (x : AV) (lo hi : Option AV) : Option AV :=
  match P.underlying t, x with
  | some (.slice e), .nilslc =>
    match intOr 0 lo, intOr 0 hi with
    | some l, some h => if (szA P e).isSome = true ∧ l = 0 ∧ h = 0 then some .nilslc else none
    | _, _ => none
  | some (.slice e), .slc r n =>
    match H[r.id]? with
    | some B =>
      match intOr 0 lo, intOr n hi with
      | some l, some h =>
        if r.ver = B.cells.length ∧ szA P e = some B.sz ∧ B.sz ≠ 0 ∧ 0 ≤ l ∧ l ≤ h ∧ (h ≤ n ∨ r.off + h.toNat * B.sz ≤ B.cells.length) then some (.slc ⟨r.id, r.off + l.toNat * B.sz, r.ver⟩ (h.toNat - l.toNat)) else none
      | _, _ => none
    | none => none
  | some .string, .str s =>
    match intOr 0 lo, intOr s.size hi with
    | some l, some h => if 0 ≤ l ∧ l ≤ h ∧ h ≤ s.size then some (.str (s.extract l.toNat h.toNat)) else none
    | _, _ => none
  | _, _ => none
def I3_ (P : Program) (H : Heap) (t : TypeId) (x : AV) (lo hi : Option AV) (m : AV) : Option Unit :=
  match P.underlying t, x, hi, m with
  | some (.slice e), .slc r _, some (.int _ h), .int _ k =>
    match H[r.id]?, intOr 0 lo with
    | some B, some l => if r.ver = B.cells.length ∧ szA P e = some B.sz ∧ B.sz ≠ 0 ∧ 0 ≤ l ∧ l ≤ h ∧ h ≤ k ∧ r.off + k.toNat * B.sz ≤ B.cells.length then some () else none
    | _, _ => none
  | _, _, _, _ => none
def max2A : AV → AV → Option AV
  | .int k x, .int _ y => some (.int k (if y > x then y else x))
  | .flt k x, .flt k' y =>
    if k = k' then
    match k.format.order x y with
    | none => some (.flt k (qnan k))
    | some .lt => some (.flt k y)
    | some .gt => some (.flt k x)
    | some .eq => some (.flt k (if (k.decode x).neg then y else x))
    else none
  | _, _ => none
def min2A : AV → AV → Option AV
  | .int k x, .int _ y => some (.int k (if y < x then y else x))
  | _, _ => none
def fillA (H : Heap) (place : Nat → Option (Nat × Nat)) (cells : List AV) : List (Nat × AV) → Option (List AV)
  | [] => some cells
  | (i, v) :: rest =>
    match place i, v.cellsA with
    | some (off, size), some cs => if cs.length = size ∧ off + size ≤ cells.length ∧ cs.all (A5_ H) = true then fillA H place (putAt cells off cs) rest else none
    | _, _ => none
def Ev_ (P : Program) (t : TypeId) (i : Nat) : Option (Nat × Nat) := (B3_ P t i).bind fun (o, ft) => (szA P ft).map fun n => (o, n)
def F8_ (P : Program) (H : Heap) (t : TypeId) (parts : List (Nat × AV)) : Option AV :=
  match P.underlying t with
  | some (.struct fs) =>
    if (fs.toList.all fun f => (szA P f.type).isSome) = true then
    (zeroA P t).bind fun z => z.cellsA.bind fun zc => (fillA H (Ev_ P t) zc parts).map AV.agg
    else none
  | _ => none
def Bq_ (P : Program) (H : Heap) (t : TypeId) (len : Nat) (parts : List (Nat × AV)) : Option (List AV × Nat × Bool) :=
  (elemA P t).bind fun e => (P.info? e).bind fun i => (i.zero).bind fun z =>
  if len * i.size ≤ 16777216 ∧ z.cells.size = i.size then
    (fillA H (fun j => some (j * i.size, i.size)) (List.replicate (len * i.size) .top) parts).map fun cs => (cs, i.size, !i.hasPointers)
  else none
def Ap_ (P : Program) (H : Heap) (b : Builtin) (argTypes : List TypeId) (args : List AV) : Option (AV × Heap) :=
  match b, argTypes, args with
  | .len, [t], [x] =>
    match P.underlying t, x with
    | some .string, .str s => some (.int .i64 s.size, H)
    | some (.slice _), .nilslc => some (.int .i64 0, H)
    | some (.slice _), .slc r n => if live H r then some (.int .i64 n, H) else none
    | _, _ => none
  | .append, [t, tx], [s, x] => Dw_ P H t tx s x
  | .clear, [t], [x] => F1_ P H t x
  | .copy, [t, _], [d, x] => copyA P H t d x
  | .max, _, x :: rest => (rest.foldlM max2A x).map fun v => (v, H)
  | .min, _, x :: rest => (rest.foldlM min2A x).map fun v => (v, H)
  | _, _, _ => none
def callA (P : Program) (O : A0_) (env : Env) (H : Heap) (c : Call) : Option (AV × Heap) :=
  match c.callee with
  | .builtin b => Ap_ P H b c.argTypes.toList (c.args.toList.map (evA env))
  | .value f =>
    match evA env f with
    | .fn g caps => O g (c.args.toList.map (evA env) ++ caps) H
    | _ => none
  | _ => none
def opA (P : Program) (O : A0_) (env : Env) (H : Heap) (o : Oper) : Option (AV × Heap) :=
  match o.op with
  | .move x | .assign x => some (evA env x, H)
  | .pick c a b =>
    match evA env c with
    | .bool t => some (if t then evA env a else evA env b, H)
    | _ => none
  | .alloc e => (zeroA P e).bind fun z => z.cellsA.bind fun cs => (newA H cs 1 (flatT P e)).map fun (r, H') => (.ptr r, H')
  | .box e x => (evA env x).cellsA.bind fun cs => if cs.all (A5_ H) = true then (newA H cs 1 (flatT P e)).map fun (r, H') => (.ptr r, H') else none
  | .build t parts => (F8_ P H t (parts.toList.map fun (i, x) => (i, evA env x))).map fun v => (v, H)
  | .buildSlice t len parts =>
    (Bq_ P H t len (parts.toList.map fun (i, x) => (i, evA env x))).bind fun (cs, sz, fl) => (newA H cs sz fl).map fun (r, H') => (.slc r len, H')
  | .load t a => (loadA P H t (evA env a)).map fun v => (v, H)
  | .store t a x => (Cx_ P H t (evA env a) (evA env x)).map fun H' => (.top, H')
  | .nilCheck x =>
    match evA env x with
    | .ptr r => if live H r then some (.ptr r, H) else none
    | .fn f cs => some (.fn f cs, H)
    | _ => none
  | .binOp op t x y _ => (binA P H op t (evA env x) (evA env y)).map fun v => (v, H)
  | .unOp op _ x => (unA op (evA env x)).map fun v => (v, H)
  | .convert s d x => convH P H s d (evA env x)
  | .makeFunc (.func f) first cap => if first.size = 0 then some (.fn f (cap.toList.map (evA env)), H) else none
  | .makeSlice t l c => makeA P H t (evA env l) (evA env c)
  | .slice t x lo hi none => (Cg_ P H t (evA env x) (lo.map (evA env)) (hi.map (evA env))).map fun v => (v, H)
  | .slice t x lo hi (some m) => (I3_ P H t (evA env x) (lo.map (evA env)) (hi.map (evA env)) (evA env m)).map fun _ => (.top, H)
  | .fieldAddr s x f => (Ck_ P H s (evA env x) f).map fun v => (v, H)
  | .field s x f => (H7_ P s (evA env x) f).map fun v => (v, H)
  | .indexAddr t x ix => (B1_ P H t (evA env x) (evA env ix)).map fun v => (v, H)
  | .index t x ix => (Fa_ P t (evA env x) (evA env ix)).map fun v => (v, H)
  | .extract t i =>
    match evA env t with
    | .tup vs => (vs[i]?).map fun v => (v, H)
    | _ => none
  | .call c => callA P O env H c
  | _ => none
end Go.Proofs.Ytmgpbchacndndaa.AM
