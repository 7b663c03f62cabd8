import Derived.Test.YtmgpbchacndndaaD1
set_option linter.unusedSimpArgs false
set_option linter.unusedVariables false
namespace Go.Proofs.Ytmgpbchacndndaa.AM
def maxN : Nat := 1073741824
def nth {α : Type} [Inhabited α] (xs : List α) (i : Nat) : α := xs.getD i default
theorem Ao_ {α : Type} [Inhabited α] (xs : List α) (i : Nat) (h : i < xs.length) : nth xs i = xs[i] := by
  unfold nth
  simp [List.getD_eq_getElem?_getD, List.getElem?_eq_getElem h]
def inb (i : Int) (n : Nat) : Bool := decide (0 ≤ i) && decide (i < n)
theorem Bf_ {i : Int} {n : Nat} : inb i n = true ↔ 0 ≤ i ∧ i < n := by simp [inb]
def sok (lo hi : Int) (n : Nat) : Bool := decide (0 ≤ lo) && (decide (lo ≤ hi) && decide (hi ≤ n))
theorem Bb_ {lo hi : Int} {n : Nat} : sok lo hi n = true ↔ 0 ≤ lo ∧ lo ≤ hi ∧ hi ≤ n := by simp [sok]
def fits (n : Nat) : Bool := decide (n ≤ maxN)
theorem Do_ {n : Nat} : fits n = true ↔ n ≤ maxN := by simp [fits]
def sub {α : Type} (xs : List α) (lo hi : Int) : List α := (xs.take hi.toNat).drop lo.toNat
theorem R2_ {α : Type} {xs : List α} {lo hi : Int} (h : sok lo hi xs.length = true) : (sub xs lo hi).length = hi.toNat - lo.toNat := by
  rw [Bb_] at h
  simp [sub]; omega
def bt (s : ByteArray) (i : Int) : Int := ((s[i.toNat]?).map fun b => (b.toNat : Int)).getD 0
inductive Row where
  | f32 (xs : List Nat) | f64 (xs : List Nat) | i64 (xs : List Int) | u8 (xs : List Int) | bool (xs : List Bool) | str (xs : List ByteArray)
inductive NRow where
  | f32 (xs : List (List Nat)) | f64 (xs : List (List Nat)) | i64 (xs : List (List Int))
inductive Col where
  | pl (r : Row)
  | sl (inn : NRow) (idx : List Nat)
inductive BR where
  | root (n : Nat)
  | sub (lo hi : Int) (b : BR)
  | plc (i : Nat) (b : BR)
  | fld (o : Nat) (b : BR)
inductive RCol where
  | pl (r : Row)
  | sl (inn : NRow)
  | ln (ns : List Nat)
inductive DV where
  | top | undef | lit (b : Bool) | bool (b : Bool) | int (k : IntKind) (n : Int) | flt (k : FloatKind) (x : Nat) | str (s : ByteArray) | nilptr | nilfn | nilslc
  | ptr (j off ver alen : Nat)
  | own (j ver len : Nat)
  | slc (j off ver alen len : Nat)
  | fn (f : FuncId) (cs : List DV)
  | agg (cs : List DV)
  | tup (cs : List DV)
  | bslc (s : BR) (row : Row)
  | bptr (p : BR) (cs : List DV)
  | hslc (s : BR) (n : Nat)
  | nest (j ver es len : Nat)
  | ncell (j ver es len i c : Nat)
  | inn (j c k len : Nat)
  | icell (j c k i len : Nat)
  | rns (n : Nat) (cols : List RCol)
  | nsb (j ver es lo len alen : Nat)
inductive DBlk where
  | row (r : Row) (ver : Nat)
  | gen (cs : List DV) (flat : Bool) (ver : Nat)
  | nest (cols : List Col) (flat : Bool) (ver : Nat)
  | gone (n ver : Nat)
def Row.len : Row → Nat
  | .f32 xs => xs.length | .f64 xs => xs.length | .i64 xs => xs.length | .u8 xs => xs.length | .bool xs => xs.length | .str xs => xs.length
def Row.cells : Row → List AV
  | .f32 xs => xs.map (.flt .f32) | .f64 xs => xs.map (.flt .f64) | .i64 xs => xs.map (.int .i64) | .u8 xs => xs.map (.int .u8) | .bool xs => xs.map .bool | .str xs => xs.map .str
def Row.sub (lo hi : Int) : Row → Row
  | .f32 xs => .f32 (AM.sub xs lo hi) | .f64 xs => .f64 (AM.sub xs lo hi) | .i64 xs => .i64 (AM.sub xs lo hi) | .u8 xs => .u8 (AM.sub xs lo hi) | .bool xs => .bool (AM.sub xs lo hi) | .str xs => .str (AM.sub xs lo hi)
def Row.get (i : Nat) : Row → DV
  | .f32 xs => .flt .f32 (nth xs i) | .f64 xs => .flt .f64 (nth xs i) | .i64 xs => .int .i64 (nth xs i) | .u8 xs => .int .u8 (nth xs i) | .bool xs => .bool (nth xs i) | .str xs => .str (nth xs i)
def Row.set (i : Nat) : Row → DV → Option Row
  | .f32 xs, .flt .f32 x => some (.f32 (xs.set i x)) | .f64 xs, .flt .f64 x => some (.f64 (xs.set i x)) | .i64 xs, .int .i64 x => some (.i64 (xs.set i x)) | .u8 xs, .int .u8 x => some (.u8 (xs.set i x))
  | .bool xs, .bool x => some (.bool (xs.set i x)) | .bool xs, .lit x => some (.bool (xs.set i x))
  | .str xs, .str x => some (.str (xs.set i x))
  | _, _ => none
def Row.app : Row → Row → Option Row
  | .f32 xs, .f32 ys => some (.f32 (xs ++ ys)) | .f64 xs, .f64 ys => some (.f64 (xs ++ ys)) | .i64 xs, .i64 ys => some (.i64 (xs ++ ys)) | .u8 xs, .u8 ys => some (.u8 (xs ++ ys)) | .bool xs, .bool ys => some (.bool (xs ++ ys)) | .str xs, .str ys => some (.str (xs ++ ys))
  | _, _ => none
def overL {α : Type} (xs : List α) (o : Nat) (ys : List α) : List α := xs.take o ++ ys ++ xs.drop (o + ys.length)
def Row.over (o : Nat) : Row → Row → Option Row
  | .f32 xs, .f32 ys => some (.f32 (overL xs o ys)) | .f64 xs, .f64 ys => some (.f64 (overL xs o ys)) | .i64 xs, .i64 ys => some (.i64 (overL xs o ys)) | .u8 xs, .u8 ys => some (.u8 (overL xs o ys)) | .bool xs, .bool ys => some (.bool (overL xs o ys))
  | _, _ => none
def nget {α : Type} (xs : List (List α)) : Nat → List α
  | 0 => []
  | k + 1 => nth xs k
def NRow.n : NRow → Nat | .f32 xs => xs.length | .f64 xs => xs.length | .i64 xs => xs.length
def NRow.get : NRow → Nat → Row | .f32 xs, k => .f32 (nget xs k) | .f64 xs, k => .f64 (nget xs k) | .i64 xs, k => .i64 (nget xs k)
def NRow.set (k : Nat) : NRow → Row → Option NRow
  | .f32 xs, .f32 r => some (.f32 (xs.set (k - 1) r)) | .f64 xs, .f64 r => some (.f64 (xs.set (k - 1) r)) | .i64 xs, .i64 r => some (.i64 (xs.set (k - 1) r))
  | _, _ => none
def NRow.push : NRow → Row → Option NRow
  | .f32 xs, .f32 r => some (.f32 (xs ++ [r])) | .f64 xs, .f64 r => some (.f64 (xs ++ [r])) | .i64 xs, .i64 r => some (.i64 (xs ++ [r]))
  | _, _ => none
def NRow.app : NRow → NRow → Option NRow
  | .f32 xs, .f32 ys => some (.f32 (xs ++ ys)) | .f64 xs, .f64 ys => some (.f64 (xs ++ ys)) | .i64 xs, .i64 ys => some (.i64 (xs ++ ys))
  | _, _ => none
def RCol.len : RCol → Nat | .pl r => r.len | .sl inn => inn.n | .ln ns => ns.length
def rlen : List RCol → Nat
  | [] => 0
  | c :: _ => c.len
def innR (n i c : Nat) : BR := .root (n + 64 * (8 * i + c) + 64)
def RCol.cell (n i c : Nat) : RCol → DV
  | .pl r => r.get i
  | .sl inn => .bslc (innR n i c) (inn.get (i + 1))
  | .ln ns => .hslc (innR n i c) (nth ns i)
def D8_ (n i : Nat) : Nat → List RCol → List DV
  | _, [] => []
  | c, col :: l => col.cell n i c :: D8_ n i (c + 1) l
def Col.len : Col → Nat | .pl r => r.len | .sl _ idx => idx.length
def colsN : List Col → Nat
  | [] => 0
  | c :: _ => c.len
def DBlk.clen : DBlk → Nat | .row r _ => r.len | .gen cs _ _ => cs.length | .nest cols _ _ => colsN cols * cols.length | .gone n _ => n
def DBlk.ver : DBlk → Nat | .row _ v => v | .gen _ _ v => v | .nest _ _ v => v | .gone _ v => v
inductive TK where
  | int (k : IntKind) | flt (k : FloatKind) | bool | str | slice (e : TypeId) | struct (fs : List (Nat × TypeId)) | other
structure TyI where
  kind : TK
  size : Nat
  flat : Bool
  zero : Option DV
  small : Bool
abbrev TyT := TypeId → Option TyI
def Eb_ : List DV → Option (List Nat)
  | [] => some []
  | .flt .f32 x :: l => (match Eb_ l with | some xs => some (x :: xs) | none => none)
  | _ => none
def D7_ : List DV → Option (List Nat)
  | [] => some []
  | .flt .f64 x :: l => (match D7_ l with | some xs => some (x :: xs) | none => none)
  | _ => none
def En_ : List DV → Option (List Int)
  | [] => some []
  | .int .i64 x :: l => (match En_ l with | some xs => some (x :: xs) | none => none)
  | _ => none
def allU8 : List DV → Option (List Int)
  | [] => some []
  | .int .u8 x :: l => (match allU8 l with | some xs => some (x :: xs) | none => none)
  | _ => none
def allB : List DV → Option (List Bool)
  | [] => some []
  | .bool x :: l => (match allB l with | some xs => some (x :: xs) | none => none)
  | .lit x :: l => (match allB l with | some xs => some (x :: xs) | none => none)
  | _ => none
def mkRow (k : TK) (l : List DV) : Option Row :=
  match k with
  | .flt .f32 => (match Eb_ l with | some xs => some (.f32 xs) | none => none)
  | .flt .f64 => (match D7_ l with | some xs => some (.f64 xs) | none => none)
  | .int .i64 => (match En_ l with | some xs => some (.i64 xs) | none => none)
  | .int .u8 => (match allU8 l with | some xs => some (.u8 xs) | none => none)
  | .bool => (match allB l with | some xs => some (.bool xs) | none => none)
  | _ => none
def Il_ (k : TK) (n : Nat) : Option Row :=
  match k with
  | .flt .f32 => some (.f32 (List.replicate n 0))
  | .flt .f64 => some (.f64 (List.replicate n 0))
  | .int .i64 => some (.i64 (List.replicate n 0))
  | .int .u8 => some (.u8 (List.replicate n 0))
  | .bool => some (.bool (List.replicate n false))
  | _ => none
def absD0 : Value → DV
  | .bool b => .lit b
  | .int k n => .int k n
  | .float k b => .flt k (canon k b)
  | .string s => .str s
  | .pointer none => .nilptr
  | .nilFunc => .nilfn
  | .slice none 0 0 => .nilslc
  | _ => .top
def absD : Value → DV
  | .agg cs => .agg (cs.toList.map absD0)
  | v => absD0 v
def evD (env : List DV) : Operand → DV
  | .tmp t => (match env[t]? with | some v => v | none => .top)
  | .const v => absD v
  | .global _ => .top
  | .func f => .fn f []
abbrev Rs := DV × List DBlk
abbrev DOr := FuncId → List DV → List DBlk → Tree Rs
def good (L : List DBlk) (j ver : Nat) : Option DBlk :=
  match L[j]? with
  | some (.gone _ _) => none
  | some b => (match Nat.beq b.ver ver with | true => some b | false => none)
  | none => none
def goodN (L : List DBlk) (j ver es : Nat) : Option (List Col × Bool) :=
  match good L j ver with
  | some (.nest cols fl _) => (match Nat.beq cols.length es, Nat.ble 1 es with | true, true => some (cols, fl) | _, _ => none)
  | _ => none
def innAt (L : List DBlk) (j c : Nat) : Option (NRow × List Nat) :=
  match L[j]? with
  | some (.nest cols _ _) => (match cols[c]? with | some (.sl inn idx) => some (inn, idx) | _ => none)
  | _ => none
def Col.cell (j c i : Nat) : Col → DV
  | .pl r => r.get i
  | .sl inn idx => .inn j c (nth idx i) (inn.get (nth idx i)).len
def Bg_ (j i : Nat) : Nat → List Col → List DV
  | _, [] => []
  | c, col :: l => col.cell j c i :: Bg_ j i (c + 1) l
def rowOf (L : List DBlk) : DV → Option Row
  | .own j ver _ => (match good L j ver with | some (.row r _) => some r | _ => none)
  | .slc j off ver _ len => (match good L j ver with | some (.row r _) => some (r.sub off (off + len : Nat)) | _ => none)
  | .bslc _ r => some r
  | .inn j c k _ => (match innAt L j c with | some (inn, _) => some (inn.get k) | none => none)
  | _ => none
def okC (L : List DBlk) : DV → Bool
  | .top | .undef | .agg _ | .tup _ | .rns _ _ | .nsb _ _ _ _ _ _ => false
  | .ptr j _ ver _ | .own j ver _ | .slc j _ ver _ _ => (match good L j ver with | some _ => true | none => false)
  | .nest j ver es _ => (match goodN L j ver es with | some _ => true | none => false)
  | .inn j c _ _ => (match innAt L j c with | some _ => true | none => false)
  | .ncell _ _ _ _ _ _ | .icell _ _ _ _ _ => false
  | _ => true
def DV.flat : DV → Bool
  | .lit _ | .bool _ | .int _ _ | .flt _ _ | .str _ | .nilptr | .nilfn | .nilslc => true
  | _ => false
def A2_ : DV → Option (List DV)
  | .top | .undef | .tup _ | .rns _ _ | .nsb _ _ _ _ _ _ => none
  | .agg cs => some cs
  | v => some [v]
def allT {α : Type} (p : α → Bool) : List α → Bool
  | [] => true
  | x :: l => (match p x with | true => allT p l | false => false)
def putD (l : List DV) (o : Nat) : List DV → List DV
  | [] => l
  | v :: vs => putD (l.set o v) (o + 1) vs
def iand (k : IntKind) (a b : Int) : Int := k.wrap ((BitVec.ofInt k.bits a &&& BitVec.ofInt k.bits b).toNat : Int)
def ior (k : IntKind) (a b : Int) : Int := k.wrap ((BitVec.ofInt k.bits a ||| BitVec.ofInt k.bits b).toNat : Int)
def ishl (k : IntKind) (a n : Int) : Int := k.wrap (a * 2 ^ (min n.toNat k.bits))
def ishr (k : IntKind) (a n : Int) : Int := a.fdiv (2 ^ (min n.toNat k.bits))
def shD (op : BinOp) (k : IntKind) (a n : Int) (L : List DBlk) : Tree Rs :=
  match op with
  | .shl => .grd (decide (0 ≤ n)) (.leaf (.int k (ishl k a n), L))
  | .shr => .grd (decide (0 ≤ n)) (.leaf (.int k (ishr k a n), L))
  | _ => .fail
def ibinD (op : BinOp) (k : IntKind) (a b : Int) (L : List DBlk) : Tree Rs :=
  match op with
  | .add => .leaf (.int k (k.wrap (a + b)), L)
  | .sub => .leaf (.int k (k.wrap (a - b)), L)
  | .mul => .leaf (.int k (k.wrap (a * b)), L)
  | .quo => .grd (!decide (b = 0)) (.leaf (.int k (k.wrap (a.tdiv b)), L))
  | .rem => .grd (!decide (b = 0)) (.leaf (.int k (a.tmod b), L))
  | .lss => .leaf (.bool (decide (a < b)), L)
  | .leq => .leaf (.bool (decide (a ≤ b)), L)
  | .gtr => .leaf (.bool (decide (b < a)), L)
  | .geq => .leaf (.bool (decide (b ≤ a)), L)
  | .eql => .leaf (.bool (decide (a = b)), L)
  | .neq => .leaf (.bool (!decide (a = b)), L)
  | .and => .leaf (.int k (iand k a b), L)
  | .or => .leaf (.int k (ior k a b), L)
  | .shl => shD .shl k a b L
  | .shr => shD .shr k a b L
  | _ => .fail
def fbinD (op : BinOp) (k : FloatKind) (x y : Nat) (L : List DBlk) : Tree Rs :=
  match op with
  | .add => .leaf (.flt k (fadd k x y), L)
  | .sub => .leaf (.flt k (fsub k x y), L)
  | .mul => .leaf (.flt k (fmul k x y), L)
  | .quo => .leaf (.flt k (fdiv k x y), L)
  | .eql => .leaf (.bool (feq k x y), L)
  | .neq => .leaf (.bool (!feq k x y), L)
  | .lss => .leaf (.bool (fless k x y), L)
  | .leq => .leaf (.bool (fless k x y || feq k x y), L)
  | .gtr => .leaf (.bool (fgrt k x y), L)
  | .geq => .leaf (.bool (fgrt k x y || feq k x y), L)
  | _ => .fail
def bbinD (op : BinOp) (a b : Bool) (L : List DBlk) : Tree Rs :=
  match op with
  | .eql => .leaf (.bool (a == b), L)
  | .neq => .leaf (.bool (!(a == b)), L)
  | _ => .fail
def nilD (op : BinOp) (isnil : Bool) (L : List DBlk) : Tree Rs :=
  match op with
  | .eql => .leaf (.lit isnil, L)
  | .neq => .leaf (.lit (!isnil), L)
  | _ => .fail
def nilK (op : BinOp) (k : Nat) (L : List DBlk) : Tree Rs :=
  match op with
  | .eql => .leaf (.bool (decide (k = 0)), L)
  | .neq => .leaf (.bool (!decide (k = 0)), L)
  | _ => .fail
def sbinD (op : BinOp) (a b : ByteArray) (L : List DBlk) : Tree Rs :=
  match op with
  | .eql => .leaf (.bool (a.toList == b.toList), L)
  | .neq => .leaf (.bool (!(a.toList == b.toList)), L)
  | .add => .grd (fits (a.size + b.size)) (.leaf (.str (a ++ b), L))
  | _ => .fail
def binD (T : TyT) (op : BinOp) (t : TypeId) (x y : DV) (L : List DBlk) : Tree Rs :=
  match x, y with
  | .int .i64 a, .int .i64 b => ibinD op .i64 a b L
  | .int .u8 a, .int .u8 b => ibinD op .u8 a b L
  | .int .u64 a, .int .u64 b => ibinD op .u64 a b L
  | .int .u32 a, .int .u32 b => ibinD op .u32 a b L
  | .int .i64 a, .int .u64 b => shD op .i64 a b L
  | .int .u64 a, .int .i64 b => shD op .u64 a b L
  | .flt .f32 a, .flt .f32 b => fbinD op .f32 a b L
  | .flt .f64 a, .flt .f64 b => fbinD op .f64 a b L
  | .str a, .str b => sbinD op a b L
  | .bool a, .bool b | .bool a, .lit b | .lit a, .bool b | .lit a, .lit b => (match T t with | some ⟨.bool, _, _, _, _⟩ => bbinD op a b L | _ => .fail)
  | .nilslc, .nilslc => (match T t with | some ⟨.slice _, _, _, _, _⟩ => nilD op true L | _ => .fail)
  | .own j ver _, .nilslc => (match T t, good L j ver with | some ⟨.slice _, _, _, _, _⟩, some _ => nilD op false L | _, _ => .fail)
  | .bslc _ r, .nilslc => (match T t with | some ⟨.slice _, _, _, _, _⟩ => .grd (decide (0 < r.len)) (nilD op false L) | _ => .fail)
  | .nest j ver es _, .nilslc => (match T t, goodN L j ver es with | some ⟨.slice _, _, _, _, _⟩, some _ => nilD op false L | _, _ => .fail)
  | .inn j c k _, .nilslc => (match T t, innAt L j c with | some ⟨.slice _, _, _, _, _⟩, some _ => nilK op k L | _, _ => .fail)
  | _, _ => .fail
def unD (op : UnOp) (x : DV) (L : List DBlk) : Tree Rs :=
  match op, x with
  | .not, .lit b => .leaf (.lit (!b), L)
  | .not, .bool b => .leaf (.bool (!b), L)
  | .neg, .int k n => .leaf (.int k (k.wrap (0 - n)), L)
  | .neg, .flt k x => .leaf (.flt k (fneg k x), L)
  | _, _ => .fail
def convD (T : TyT) (s d : TypeId) (x : DV) (L : List DBlk) : Tree Rs :=
  match T s, T d, x with
  | some _, some ⟨.int k, _, _, _, _⟩, .int _ n => .leaf (.int k (k.wrap n), L)
  | some _, some ⟨.flt k, _, _, _, _⟩, .int _ n => .leaf (.flt k (Bm_ k n), L)
  | some _, some ⟨.int k, _, _, _, _⟩, .flt sk b => .call (Cn_ sk b k) fun n => .leaf (.int k n, L)
  | some _, some ⟨.flt .f32, _, _, _, _⟩, .flt .f32 b => .leaf (.flt .f32 b, L)
  | some _, some ⟨.flt .f64, _, _, _, _⟩, .flt .f64 b => .leaf (.flt .f64 b, L)
  | some _, some ⟨.flt .f64, _, _, _, _⟩, .flt .f32 b => .leaf (.flt .f64 (wid b), L)
  | some _, some ⟨.flt .f32, _, _, _, _⟩, .flt .f64 b => .call (fconv .f64 b .f32) fun y => .leaf (.flt .f32 y, L)
  | some _, some ⟨.str, _, _, _, _⟩, .str s => .leaf (.str s, L)
  | _, _, _ => .fail
def numsS (b : ByteArray) : List Int := b.data.toList.map fun x => (x.toNat : Int)
def M9_ (T : TyT) (s d : TypeId) (x : DV) (L : List DBlk) : Tree Rs :=
  match T s, T d, x with
  | some ⟨.slice _, _, _, _, _⟩, some ⟨.slice e, _, _, _, _⟩, .own j ver len =>
    (match T e, Nat.beq s d, good L j ver with
    | some ⟨.int .u8, _, _, _, _⟩, true, some (.row _ _) => .grd (decide (0 < len)) (.leaf (.own j ver len, L))
    | _, _, _ => .fail)
  | some ⟨.str, _, _, _, _⟩, some ⟨.slice e, _, _, _, _⟩, .str b =>
    (match T e with
    | some ⟨.int .u8, _, _, _, _⟩ => .grd (fits b.size) (.leaf (.own L.length 0 b.size, L ++ [.row (.u8 (numsS b)) 0]))
    | _ => .fail)
  | _, _, _ => .fail
def E2_ (T : TyT) (s d : TypeId) (x : DV) (L : List DBlk) : Tree Rs :=
  match T s, T d with
  | some ⟨.slice e, _, _, _, _⟩, some ⟨.str, _, _, _, _⟩ =>
    (match T e with
    | some ⟨.int .u8, _, _, _, _⟩ => (match rowOf L x with | some (.u8 xs) => .leaf (.str (strOfNums xs), L) | _ => .fail)
    | _ => .fail)
  | _, _ => .fail
def Ke_ (T : TyT) (s d : TypeId) (x : DV) (L : List DBlk) : Tree Rs :=
  match Nat.beq d Ge_ with
  | true => M9_ T s d x L
  | false => (match x with
    | .own _ _ _ | .slc _ _ _ _ _ | .bslc _ _ | .inn _ _ _ _ => E2_ T s d x L
    | _ => convD T s d x L)
def AV.fld (o : Nat) : AV → AV
  | .ptr r => .ptr ⟨r.id, r.off + o, r.ver⟩
  | v => v
def AV.plc' (i : Nat) : AV → AV
  | .slc r _ => .ptr ⟨r.id, r.off + i, r.ver⟩
  | v => v
def AV.sub' (lo hi : Int) : AV → AV
  | .slc r _ => .slc ⟨r.id, r.off + lo.toNat, r.ver⟩ (hi.toNat - lo.toNat)
  | v => v
def BR.av (ρ : Nat → AV) : BR → AV
  | .root n => ρ n
  | .sub lo hi b => AV.sub' lo hi (b.av ρ)
  | .plc i b => AV.plc' i (b.av ρ)
  | .fld o b => AV.fld o (b.av ρ)
def readD (i : TyI) (cs : List DV) : Option DV :=
  match i.kind with
  | .struct _ => (match Nat.ble i.size cs.length with | true => some (.agg (cs.take i.size)) | false => none)
  | _ => cs[0]?
def loadD (T : TyT) (t : TypeId) (p : DV) (L : List DBlk) : Tree Rs :=
  match T t, p with
  | some i, .ptr j off ver _ =>
    (match good L j ver with
    | some (.row r _) => (match i.kind with | .struct _ => .fail | _ => .leaf (r.get off, L))
    | some (.gen cs _ _) => optT (readD i (cs.drop off)) fun v => .leaf (v, L)
    | _ => .fail)
  | some i, .bptr _ cs => optT (readD i cs) fun v => .leaf (v, L)
  | some i, .ncell j ver es _ x c => (match goodN L j ver es with | some (cols, _) => optT (readD i (Bg_ j x c (cols.drop c))) fun v => .leaf (v, L) | none => .fail)
  | some i, .icell j c k x _ => (match innAt L j c, i.kind with | some _, .struct _ => .fail | some (inn, _), _ => .leaf ((inn.get k).get x, L) | none, _ => .fail)
  | _, _ => .fail
def putC (L : List DBlk) (j ver : Nat) (fl : Bool) (cols : List Col) (x c : Nat) (v : DV) : Option (List DBlk) :=
  match cols[c]? with
  | some (.pl r) => (match r.set x v with | some r' => some (L.set j (.nest (cols.set c (.pl r')) fl ver)) | none => none)
  | some (.sl inn idx) =>
    (match v with
    | .nilslc => some (L.set j (.nest (cols.set c (.sl inn (idx.set x 0))) fl ver))
    | .inn j' c' k _ => (match Nat.beq j' j, Nat.beq c' c with | true, true => some (L.set j (.nest (cols.set c (.sl inn (idx.set x k))) fl ver)) | _, _ => none)
    | .own j' ver' _ =>
      (match good L j' ver' with
      | some (.row r v') => (match inn.push r with | some inn' => some ((L.set j' (.gone r.len (v' + 1))).set j (.nest (cols.set c (.sl inn' (idx.set x (inn.n + 1)))) fl ver)) | none => none)
      | _ => none)
    | _ => none)
  | none => none
def putN (j x : Nat) : List DBlk → Nat → List DV → Option (List DBlk)
  | L, _, [] => some L
  | L, c, v :: vs => (match L[j]? with | some (.nest cols fl ver) => (match putC L j ver fl cols x c v with | some L' => putN j x L' (c + 1) vs | none => none) | _ => none)
def I5_ (T : TyT) (t : TypeId) (p v : DV) (L : List DBlk) : Tree Rs :=
  match T t, p with
  | some i, .ptr j off ver _ =>
    (match good L j ver with
    | some (.row r v') => (match Nat.beq i.size 1 with | true => optT (r.set off v) fun r' => .leaf (.top, L.set j (.row r' v')) | false => .fail)
    | some (.gen cs fl v') => optT (A2_ v) fun vs =>
        (match Nat.beq vs.length i.size, Nat.ble (off + vs.length) cs.length, allT (okC L) vs, (match fl with | true => allT DV.flat vs | false => true) with
        | true, true, true, true => .leaf (.top, L.set j (.gen (putD cs off vs) fl v'))
        | _, _, _, _ => .fail)
    | _ => .fail)
  | some i, .ncell j ver es _ x c => optT (A2_ v) fun vs =>
    (match goodN L j ver es, Nat.beq vs.length i.size, Nat.ble (c + vs.length) es, allT (okC L) vs with
    | some _, true, true, true => optT (putN j x L c vs) fun L' => .leaf (.top, L')
    | _, _, _, _ => .fail)
  | some i, .icell j c k x _ =>
    (match L[j]?, Nat.beq i.size 1 with
    | some (.nest cols fl ver), true =>
      (match cols[c]? with
      | some (.sl inn idx) => optT ((inn.get k).set x v) fun r => optT (inn.set k r) fun inn' => .leaf (.top, L.set j (.nest (cols.set c (.sl inn' idx)) fl ver))
      | _ => .fail)
    | _, _ => .fail)
  | _, _ => .fail
def Gv_ (T : TyT) (s : TypeId) (x : DV) (f : Nat) (L : List DBlk) : Tree Rs :=
  match T s with
  | some ⟨.struct fs, _, _, _, _⟩ =>
    (match fs[f]? with
    | some (o, ft) =>
      (match T ft with
      | some i =>
        (match Nat.ble 1 i.size, x with
        | true, .ptr j off ver alen => (match good L j ver with | some (.gen cs _ _) => (match Nat.ble (off + o + 1) cs.length with | true => .leaf (.ptr j (off + o) ver alen, L) | false => .fail) | _ => .fail)
        | true, .bptr p cs => (match Nat.ble (o + 1) cs.length with | true => .leaf (.bptr (.fld o p) (cs.drop o), L) | false => .fail)
        | true, .ncell j ver es len x c => (match goodN L j ver es, Nat.ble (c + o + 1) es with | some _, true => .leaf (.ncell j ver es len x (c + o), L) | _, _ => .fail)
        | _, _ => .fail)
      | none => .fail)
    | none => .fail)
  | _ => .fail
def H9_ (T : TyT) (s : TypeId) (x : DV) (f : Nat) (L : List DBlk) : Tree Rs :=
  match T s, x with
  | some ⟨.struct fs, _, _, _, _⟩, .agg cs =>
    (match fs[f]? with
    | some (o, ft) => (match T ft with | some i => optT (readD i (cs.drop o)) fun v => .leaf (v, L) | none => .fail)
    | none => .fail)
  | _, _ => .fail
def H8_ (T : TyT) (t : TypeId) (x ix : DV) (L : List DBlk) : Tree Rs :=
  match T t, x, ix with
  | some ⟨.slice e, _, _, _, _⟩, .own j ver len, .int _ i =>
    (match T e, good L j ver with
    | some ei, some (.row _ _) => (match Nat.beq ei.size 1 with | true => .grd (inb i len) (.leaf (.ptr j i.toNat ver len, L)) | false => .fail)
    | _, _ => .fail)
  | some ⟨.slice e, _, _, _, _⟩, .slc j off ver alen len, .int _ i =>
    (match T e, good L j ver with
    | some ei, some (.row _ _) => (match Nat.beq ei.size 1 with | true => .grd (inb i len) (.leaf (.ptr j (off + i.toNat) ver alen, L)) | false => .fail)
    | _, _ => .fail)
  | some ⟨.slice e, _, _, _, _⟩, .bslc s r, .int _ i =>
    (match T e with
    | some ei => (match Nat.beq ei.size 1 with | true => .grd (inb i r.len) (.leaf (.bptr (.plc i.toNat s) [r.get i.toNat], L)) | false => .fail)
    | _ => .fail)
  | some ⟨.slice e, _, _, _, _⟩, .nest j ver es len, .int _ i =>
    (match T e, goodN L j ver es with
    | some ei, some _ => (match Nat.beq ei.size es with | true => .grd (inb i len) (.leaf (.ncell j ver es len i.toNat 0, L)) | false => .fail)
    | _, _ => .fail)
  | some ⟨.slice e, _, _, _, _⟩, .inn j c k len, .int _ i =>
    (match T e, innAt L j c with
    | some ei, some _ => (match Nat.beq ei.size 1 with | true => .grd (inb i len) (.leaf (.icell j c k i.toNat len, L)) | false => .fail)
    | _, _ => .fail)
  | some ⟨.slice e, _, _, _, _⟩, .rns n cols, .int _ i =>
    (match T e with
    | some ei => (match Nat.beq ei.size cols.length with | true => .grd (inb i (rlen cols)) (.leaf (.bptr (.plc (i.toNat * cols.length) (.root n)) (D8_ n i.toNat 0 cols), L)) | false => .fail)
    | _ => .fail)
  | _, _, _ => .fail
def I9_ (T : TyT) (t : TypeId) (x ix : DV) (L : List DBlk) : Tree Rs :=
  match T t, x, ix with
  | some ⟨.str, _, _, _, _⟩, .str s, .int _ i => .grd (inb i s.size) (.leaf (.int .u8 (bt s i), L))
  | _, _, _ => .fail
def loD : Option DV → Option Int
  | none => some 0
  | some (.int _ n) => some n
  | _ => none
def hiD (d : Nat) : Option DV → Option Int
  | none => some d
  | some (.int _ n) => some n
  | _ => none
def If_ (T : TyT) (t : TypeId) (x : DV) (lo hi : Option DV) (L : List DBlk) : Tree Rs :=
  match T t, x with
  | some ⟨.slice e, _, _, _, _⟩, .own j ver len =>
    (match T e, good L j ver, loD lo, hiD len hi with
    | some ei, some (.row _ _), some l, some h => (match Nat.beq ei.size 1 with | true => .grd (sok l h len) (.leaf (.slc j l.toNat ver len (h.toNat - l.toNat), L)) | false => .fail)
    | _, _, _, _ => .fail)
  | some ⟨.slice e, _, _, _, _⟩, .slc j off ver alen len =>
    (match T e, good L j ver, loD lo, hiD len hi with
    | some ei, some (.row _ _), some l, some h => (match Nat.beq ei.size 1 with | true => .grd (sok l h (alen - off)) (.leaf (.slc j (off + l.toNat) ver alen (h.toNat - l.toNat), L)) | false => .fail)
    | _, _, _, _ => .fail)
  | some ⟨.slice e, _, _, _, _⟩, .bslc s r =>
    (match T e, loD lo, hiD r.len hi with
    | some ei, some l, some h => (match Nat.beq ei.size 1 with | true => .grd (sok l h r.len) (.leaf (.bslc (.sub l h s) (r.sub l h), L)) | false => .fail)
    | _, _, _ => .fail)
  | some ⟨.slice e, _, _, _, _⟩, .nest j ver es len =>
    (match T e, goodN L j ver es, loD lo, hiD len hi with
    | some ei, some _, some l, some h => (match Nat.beq ei.size es with | true => .grd (sok l h len) (.leaf (.nsb j ver es l.toNat (h.toNat - l.toNat) len, L)) | false => .fail)
    | _, _, _, _ => .fail)
  | some ⟨.str, _, _, _, _⟩, .str s =>
    (match loD lo, hiD s.size hi with
    | some l, some h => .grd (sok l h s.size) (.leaf (.str (s.extract l.toNat h.toNat), L))
    | _, _ => .fail)
  | _, _ => .fail
def Ie_ (T : TyT) (t : TypeId) (x : DV) (lo hi : Option DV) (m : DV) (L : List DBlk) : Tree Rs :=
  match T t, x, hi, m with
  | some ⟨.slice e, _, _, _, _⟩, .own j ver len, some (.int _ h), .int _ k =>
    (match T e, good L j ver, loD lo with
    | some ei, some (.row _ _), some l => (match Nat.beq ei.size 1 with | true => .grd (sok l h len) (.grd (decide (h ≤ k) && decide (k ≤ len)) (.leaf (.top, L))) | false => .fail)
    | _, _, _ => .fail)
  | _, _, _, _ => .fail
def lenD (T : TyT) (t : TypeId) (x : DV) (L : List DBlk) : Tree Rs :=
  match T t, x with
  | some ⟨.str, _, _, _, _⟩, .str s => .leaf (.int .i64 s.size, L)
  | some ⟨.slice _, _, _, _, _⟩, .nilslc => .leaf (.int .i64 0, L)
  | some ⟨.slice _, _, _, _, _⟩, .own j ver len => (match good L j ver with | some _ => .leaf (.int .i64 len, L) | none => .fail)
  | some ⟨.slice _, _, _, _, _⟩, .slc j _ ver _ len => (match good L j ver with | some _ => .leaf (.int .i64 len, L) | none => .fail)
  | some ⟨.slice _, _, _, _, _⟩, .bslc _ r => .leaf (.int .i64 r.len, L)
  | some ⟨.slice _, _, _, _, _⟩, .hslc _ n => .leaf (.int .i64 n, L)
  | some ⟨.slice _, _, _, _, _⟩, .rns _ cols => .leaf (.int .i64 (rlen cols), L)
  | some ⟨.slice _, _, _, _, _⟩, .nest j ver es len => (match goodN L j ver es with | some _ => .leaf (.int .i64 len, L) | none => .fail)
  | some ⟨.slice _, _, _, _, _⟩, .inn j c _ len => (match innAt L j c with | some _ => .leaf (.int .i64 len, L) | none => .fail)
  | _, _ => .fail
def D2_ (n : Nat) : Nat → Nat
  | 0 => 0
  | k + 1 => n + (k + 1)
def B6_ : List Col → List Col → Option (List Col)
  | [], [] => some []
  | .pl r :: a, .pl s :: b => (match r.app s, B6_ a b with | some t, some l => some (.pl t :: l) | _, _ => none)
  | .sl inn idx :: a, .sl inn1 idx1 :: b => (match inn.app inn1, B6_ a b with | some t, some l => some (.sl t (idx ++ idx1.map (D2_ inn.n)) :: l) | _, _ => none)
  | _, _ => none
def K4_ (ei : TyI) (j ver es len j1 ver1 es1 len1 : Nat) (L : List DBlk) : Tree Rs :=
  match goodN L j ver es, goodN L j1 ver1 es1, Nat.beq j j1, ei.small, Nat.beq ei.size es with
  | some (cols, fl), some (cols1, fl1), false, true, true =>
    (match fl, fl1 with
    | true, false => .fail
    | _, _ => optT (B6_ cols cols1) fun cols' => .grd (fits (len + len1)) (.leaf (.nest j (ver + 1) es (len + len1), (L.set j1 (.gone (len1 * es1) (ver1 + 1))).set j (.nest cols' fl (ver + 1)))))
  | _, _, _, _, _ => .fail
def Oo_ (T : TyT) (e : TypeId) (s : DV) (b : ByteArray) (L : List DBlk) : Tree Rs :=
  match T e with
  | some ⟨.int .u8, 1, true, _, true⟩ =>
    (match s with
    | .own j ver _ => (match good L j ver with
      | some (.row r v) => optT (r.app (.u8 (numsS b))) fun r' => .grd (fits r'.len) (.leaf (.own j (v + 1) r'.len, L.set j (.row r' (v + 1))))
      | _ => .fail)
    | _ => .fail)
  | _ => .fail
def L1_ (T : TyT) (t tx : TypeId) (s x : DV) (L : List DBlk) : Tree Rs :=
  match Nat.beq t tx, T t with
  | true, some ⟨.slice e, _, _, _, _⟩ =>
    (match T e with
    | some ⟨_, 1, true, _, true⟩ =>
      (match s, x with
      | .own j ver len, .nilslc => (match good L j ver with | some (.row r _) => .leaf (s, L) | _ => .fail)
      | .own j ver len, x =>
        (match good L j ver, rowOf L x with
        | some (.row r v), some y => optT (r.app y) fun r' => .grd (fits r'.len) (.leaf (.own j (v + 1) r'.len, L.set j (.row r' (v + 1))))
        | _, _ => .fail)
      | .nilslc, x =>
        (match rowOf L x with
        | some y => .grd (fits y.len) (.br (decide (y.len = 0)) (match x with | .own _ _ _ => .fail | _ => .leaf (.nilslc, L)) (.leaf (.own L.length 0 y.len, L ++ [.row y 0])))
        | _ => .fail)
      | .slc j off ver alen len, x =>
        (match good L j ver, rowOf L x with
        | some (.row r v), some y => .grd (decide (off + len + y.len ≤ r.len)) (optT (r.over (off + len) y) fun r' => .leaf (.slc j off ver alen (len + y.len), L.set j (.row r' v)))
        | _, _ => .fail)
      | _, _ => .fail)
    | some ei => (match s, x with | .nest j ver es len, .nest j1 ver1 es1 len1 => K4_ ei j ver es len j1 ver1 es1 len1 L | _, _ => .fail)
    | none => .fail)
  | false, some ⟨.slice e, _, _, _, _⟩ => (match T tx, x with | some ⟨.str, _, _, _, _⟩, .str b => Oo_ T e s b L | _, _ => .fail)
  | _, _ => .fail
def fmaxA (k : FloatKind) (x y : Nat) : Nat :=
  match k.format.order x y with
  | none => qnan k
  | some .lt => y
  | some .gt => x
  | some .eq => if (k.decode x).neg then y else x
def imax (x y : Int) : Int := if y > x then y else x
def imin (x y : Int) : Int := if y < x then y else x
def maxD : DV → DV → List DBlk → Tree Rs
  | .int .i64 x, .int .i64 y, L => .leaf (.int .i64 (imax x y), L)
  | .flt .f32 x, .flt .f32 y, L => .leaf (.flt .f32 (fmaxA .f32 x y), L)
  | .flt .f64 x, .flt .f64 y, L => .leaf (.flt .f64 (fmaxA .f64 x y), L)
  | _, _, _ => .fail
def minD : DV → DV → List DBlk → Tree Rs
  | .int .i64 x, .int .i64 y, L => .leaf (.int .i64 (imin x y), L)
  | _, _, _ => .fail
def Mk_ (T : TyT) (t : TypeId) (x : DV) (L : List DBlk) : Tree Rs :=
  match T t with
  | some ⟨.slice e, _, _, _, _⟩ =>
    (match T e with
    | some ⟨k, 1, true, _, true⟩ =>
      (match x with
      | .nilslc => .leaf (.tup [], L)
      | .own j ver len =>
        (match good L j ver, Il_ k len with
        | some (.row r v), some y => optT (r.over 0 y) fun r' => .leaf (.tup [], L.set j (.row r' v))
        | _, _ => .fail)
      | .slc j off ver _ len =>
        (match good L j ver, Il_ k len with
        | some (.row r v), some y => .grd (decide (off + len ≤ r.len)) (optT (r.over off y) fun r' => .leaf (.tup [], L.set j (.row r' v)))
        | _, _ => .fail)
      | _ => .fail)
    | _ => .fail)
  | _ => .fail
def Row.fst (k : Nat) (r : Row) : Row := r.sub 0 (k : Int)
def copyD (T : TyT) (t : TypeId) (d x : DV) (L : List DBlk) : Tree Rs :=
  match T t with
  | some ⟨.slice e, _, _, _, _⟩ =>
    (match T e with
    | some ⟨k, 1, true, _, true⟩ =>
      (match d with
      | .own j ver len =>
        (match good L j ver, rowOf L x with
        | some (.row r v), some y => optT (r.over 0 (y.fst (min y.len len))) fun r' => .leaf (.int .i64 ((min y.len len : Nat) : Int), L.set j (.row r' v))
        | _, _ => .fail)
      | .slc j off ver _ len =>
        (match good L j ver, rowOf L x with
        | some (.row r v), some y => .grd (decide (off + len ≤ r.len)) (optT (r.over off (y.fst (min y.len len))) fun r' => .leaf (.int .i64 ((min y.len len : Nat) : Int), L.set j (.row r' v)))
        | _, _ => .fail)
      | _ => .fail)
    | _ => .fail)
  | _ => .fail
def Kl_ (T : TyT) (b : Builtin) (ts : List TypeId) (args : List DV) (L : List DBlk) : Tree Rs :=
  match b, ts, args with
  | .len, [t], [x] => lenD T t x L
  | .append, [t, tx], [s, x] => L1_ T t tx s x L
  | .clear, [t], [x] => Mk_ T t x L
  | .copy, [t, _], [d, x] => copyD T t d x L
  | .max, _, [x, y] => maxD x y L
  | .min, _, [x, y] => minD x y L
  | _, _, _ => .fail
def fillD (L : List DBlk) (T : TyT) (fs : List (Nat × TypeId)) (cells : List DV) : List (Nat × DV) → Option (List DV)
  | [] => some cells
  | (i, v) :: rest =>
    match fs[i]?, A2_ v with
    | some (o, ft), some cs =>
      (match T ft with
      | some fi => (match Nat.beq cs.length fi.size, Nat.ble (o + fi.size) cells.length, allT (okC L) cs with
        | true, true, true => fillD L T fs (putD cells o cs) rest
        | _, _, _ => none)
      | none => none)
    | _, _ => none
def Gs_ (T : TyT) (t : TypeId) (parts : List (Nat × DV)) (L : List DBlk) : Tree Rs :=
  match T t with
  | some ⟨.struct fs, _, _, some (.agg zc), _⟩ => optT (fillD L T fs zc parts) fun cs => .leaf (.agg cs, L)
  | _ => .fail
def E1_ (k : Nat) : List (Nat × DV) → Option (List DV)
  | [] => some []
  | (i, v) :: rest => (match Nat.beq i k, E1_ (k + 1) rest with | true, some l => some (v :: l) | _, _ => none)
def colK (T : TyT) : Nat → TypeId → Option (List Col)
  | 0, _ => none
  | n + 1, t =>
    (match T t with
    | some ⟨.struct fs, _, _, _, _⟩ => fs.foldr (fun q acc => match colK T n q.2, acc with | some a, some b => some (a ++ b) | _, _ => none) (some [])
    | some ⟨.slice e, 1, _, _, _⟩ => (match T e with
      | some ⟨.flt .f32, 1, _, _, _⟩ => some [.sl (.f32 []) []]
      | some ⟨.flt .f64, 1, _, _, _⟩ => some [.sl (.f64 []) []]
      | some ⟨.int .i64, 1, _, _, _⟩ => some [.sl (.i64 []) []]
      | _ => none)
    | some ⟨.flt .f32, 1, _, _, _⟩ => some [.pl (.f32 [])]
    | some ⟨.flt .f64, 1, _, _, _⟩ => some [.pl (.f64 [])]
    | some ⟨.int .i64, 1, _, _, _⟩ => some [.pl (.i64 [])]
    | some ⟨.str, 1, _, _, _⟩ => some [.pl (.str [])]
    | some ⟨.bool, 1, _, _, _⟩ => some [.pl (.bool [])]
    | _ => none)
def Col.rep (n : Nat) : Col → Col
  | .pl (.f32 _) => .pl (.f32 (List.replicate n 0)) | .pl (.f64 _) => .pl (.f64 (List.replicate n 0)) | .pl (.i64 _) => .pl (.i64 (List.replicate n 0)) | .pl (.u8 _) => .pl (.u8 (List.replicate n 0))
  | .pl (.bool _) => .pl (.bool (List.replicate n false)) | .pl (.str _) => .pl (.str (List.replicate n ByteArray.empty))
  | .sl inn _ => .sl inn (List.replicate n 0)
def Col.isE (fl : Bool) : Col → Bool
  | .pl r => Nat.beq r.len 0
  | .sl inn idx => !fl && (Nat.beq inn.n 0 && Nat.beq idx.length 0)
def Ix_ : List DV → Option (List ByteArray)
  | [] => some []
  | .str x :: l => (match Ix_ l with | some xs => some (x :: xs) | none => none)
  | _ => none
def Nz_ (T : TyT) (e : TypeId) (ei : TyI) (vs : List DV) (L : List DBlk) : Tree Rs :=
  match colK T 4 e with
  | some cols =>
    (match Nat.beq cols.length ei.size, Nat.ble 1 ei.size && (Nat.ble ei.size 4096 && (ei.small && allT (Col.isE ei.flat) cols)), vs with
    | true, true, [] => .leaf (.nest L.length 0 ei.size 0, L ++ [.nest cols ei.flat 0])
    | true, true, [v] => optT (A2_ v) fun cs =>
      (match Nat.beq cs.length ei.size, allT (okC L) cs with
      | true, true => optT (putN L.length 0 (L ++ [.nest (cols.map (Col.rep 1)) ei.flat 0]) 0 cs) fun L' => .leaf (.nest L.length 0 ei.size 1, L')
      | _, _ => .fail)
    | true, true, vl => (match cols, Nat.ble vl.length 4096, Ix_ vl with
      | [.pl (.str _)], true, some xs => .leaf (.nest L.length 0 ei.size vl.length, L ++ [.nest [.pl (.str xs)] ei.flat 0])
      | _, _, _ => .fail)
    | _, _, _ => .fail)
  | none => .fail
def Ky_ (T : TyT) (t : TypeId) (len : Nat) (parts : List (Nat × DV)) (L : List DBlk) : Tree Rs :=
  match T t with
  | some ⟨.slice e, _, _, _, _⟩ =>
    (match T e with
    | some ⟨k, 1, true, _, true⟩ =>
      (match Nat.beq parts.length len, Nat.ble len 4096, E1_ 0 parts with
      | true, true, some vs => optT (mkRow k vs) fun r => .leaf (.own L.length 0 r.len, L ++ [.row r 0])
      | _, _, _ => .fail)
    | some ei => (match nestT t, Nat.beq parts.length len, E1_ 0 parts with | true, true, some vs => Nz_ T e ei vs L | _, _, _ => .fail)
    | none => .fail)
  | _ => .fail
def Col.repZ (n : Nat) : Col → DV → Option Col
  | .pl (.f32 _), .flt .f32 x => some (.pl (.f32 (List.replicate n x)))
  | .pl (.f64 _), .flt .f64 x => some (.pl (.f64 (List.replicate n x)))
  | .pl (.i64 _), .int .i64 x => some (.pl (.i64 (List.replicate n x)))
  | .pl (.bool _), .lit x => some (.pl (.bool (List.replicate n x)))
  | .pl (.str _), .str x => some (.pl (.str (List.replicate n x)))
  | .sl inn _, .nilslc => some (.sl inn (List.replicate n 0))
  | _, _ => none
def Jw_ (n : Nat) : List Col → List DV → Option (List Col)
  | [], [] => some []
  | c :: cs, z :: zs => (match c.repZ n z, Jw_ n cs zs with | some a, some b => some (a :: b) | _, _ => none)
  | _, _ => none
def No_ (T : TyT) (e : TypeId) (ei : TyI) (n : Nat) (L : List DBlk) : Tree Rs :=
  match colK T 4 e, ei.zero with
  | some cols, some zd =>
    (match A2_ zd with
    | some zc => (match Nat.beq cols.length ei.size, Nat.ble 1 ei.size && (ei.small && allT (Col.isE ei.flat) cols), Jw_ n cols zc with
      | true, true, some cols' => .leaf (.nest L.length 0 ei.size n, L ++ [.nest cols' ei.flat 0])
      | _, _, _ => .fail)
    | none => .fail)
  | _, _ => .fail
def makeD (T : TyT) (t : TypeId) (l c : DV) (L : List DBlk) : Tree Rs :=
  match T t, l, c with
  | some ⟨.slice e, _, _, _, _⟩, .int _ n, .int _ m =>
    (match T e with
    | some ⟨k, 1, true, _, true⟩ =>
      (match Il_ k n.toNat with
      | some r => .need (m = n) (.grd (inb n (maxN + 1)) (.leaf (.own L.length 0 n.toNat, L ++ [.row r 0])))
      | none => .fail)
    | some ei => (match nestT t with | true => .need (m = n) (.grd (inb n (maxN + 1)) (No_ T e ei n.toNat L)) | false => .fail)
    | none => .fail)
  | _, _, _ => .fail
def Dl_ (T : TyT) (e : TypeId) (v : Option DV) (L : List DBlk) : Tree Rs :=
  match T e with
  | some i =>
    (match v with
    | some v => optT (A2_ v) fun cs => (match Nat.ble 1 cs.length, allT (okC L) cs, (match i.flat with | true => allT DV.flat cs | false => true) with
      | true, true, true => .leaf (.ptr L.length 0 0 cs.length, L ++ [.gen cs i.flat 0])
      | _, _, _ => .fail)
    | none => .fail)
  | none => .fail
def zeroD (T : TyT) (e : TypeId) : Option DV := match T e with | some i => i.zero | none => none
def pickD (c x y : DV) (L : List DBlk) : Tree Rs :=
  match c with
  | .lit b => (match b with | true => .leaf (x, L) | false => .leaf (y, L))
  | .bool b => .br b (.leaf (x, L)) (.leaf (y, L))
  | _ => .fail
def Jr_ (x : DV) (L : List DBlk) : Tree Rs :=
  match x with
  | .ptr j _ ver _ => (match good L j ver with | some _ => .leaf (x, L) | none => .fail)
  | .bptr _ _ => .leaf (x, L)
  | .ncell j ver es _ _ _ => (match goodN L j ver es with | some _ => .leaf (x, L) | none => .fail)
  | .fn _ _ => .leaf (x, L)
  | _ => .fail
def Kh_ (t : DV) (i : Nat) (L : List DBlk) : Tree Rs :=
  match t with
  | .tup vs => optT vs[i]? fun v => .leaf (v, L)
  | _ => .fail
def opD (T : TyT) (O : DOr) (env : List DV) (L : List DBlk) (o : Oper) : Tree Rs :=
  match o.op with
  | .move x | .assign x => .leaf (evD env x, L)
  | .pick c a b => pickD (evD env c) (evD env a) (evD env b) L
  | .alloc e => Dl_ T e (zeroD T e) L
  | .box e x => Dl_ T e (some (evD env x)) L
  | .build t parts => Gs_ T t (parts.toList.map fun q => (q.1, evD env q.2)) L
  | .buildSlice t len parts => Ky_ T t len (parts.toList.map fun q => (q.1, evD env q.2)) L
  | .load t a => loadD T t (evD env a) L
  | .store t a x => I5_ T t (evD env a) (evD env x) L
  | .nilCheck x => Jr_ (evD env x) L
  | .binOp op t x y _ => binD T op t (evD env x) (evD env y) L
  | .unOp op _ x => unD op (evD env x) L
  | .convert s d x => Ke_ T s d (evD env x) L
  | .makeFunc (.func f) first cap => (match first.toList with | [] => .leaf (.fn f (cap.toList.map (evD env)), L) | _ => .fail)
  | .makeSlice t l c => makeD T t (evD env l) (evD env c) L
  | .slice t x lo hi none => If_ T t (evD env x) (lo.map (evD env)) (hi.map (evD env)) L
  | .slice t x lo hi (some m) => Ie_ T t (evD env x) (lo.map (evD env)) (hi.map (evD env)) (evD env m) L
  | .fieldAddr s x f => Gv_ T s (evD env x) f L
  | .field s x f => H9_ T s (evD env x) f L
  | .indexAddr t x ix => H8_ T t (evD env x) (evD env ix) L
  | .index t x ix => I9_ T t (evD env x) (evD env ix) L
  | .extract t i => Kh_ (evD env t) i L
  | .call { callee := .builtin b, args := args, argTypes := ts } => Kl_ T b ts.toList (args.toList.map (evD env)) L
  | .call { callee := .value f, args := args, argTypes := _ } => (match evD env f with | .fn g caps => O g (args.toList.map (evD env) ++ caps) L | _ => .fail)
  | _ => .fail
end Go.Proofs.Ytmgpbchacndndaa.AM
