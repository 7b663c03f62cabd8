import Derived.Orders
import Derived.Tactics
import Derived.LoopN
import Derived.Deep.LoopGhost
import Derived.Deep.Draws
import GoSem.Dispatch
set_option linter.unusedSimpArgs false
set_option linter.unusedVariables false
namespace Go.Proofs.Ytmgpbchacndndaa.AM
def Ge_ : TypeId := 22
structure Ref where
  id : Nat
  off : Nat
  ver : Nat
inductive AV where
  | top
  | undef
  | bool (b : Bool)
  | int (k : IntKind) (n : Int)
  | flt (k : FloatKind) (x : Nat)
  | str (s : ByteArray)
  | nilptr
  | nilfn
  | ptr (r : Ref)
  | nilslc
  | slc (r : Ref) (len : Nat)
  | fn (f : FuncId) (cap : List AV)
  | agg (cs : List AV)
  | tup (vs : List AV)
structure Blk where
  cells : List AV
  own : Bool
  sz : Nat
  flat : Bool
abbrev Heap := List Blk
abbrev Env := List AV
structure Mem where
  blk : Nat → Nat
  off : Nat → Nat
  phys : Nat → Nat
def AV.isFlat : AV → Bool
  | .bool _ | .int _ _ | .flt _ _ | .str _ | .nilptr | .nilfn | .nilslc => true
  | _ => false
def qnan : FloatKind → Nat
  | .f32 => 0x7fc00000
  | .f64 => 0x7ff8000000000000
def isNan (k : FloatKind) (b : Nat) : Bool := (k.decode b).isNaN
def canon (k : FloatKind) (b : Nat) : Nat := if isNan k b then qnan k else b
def SlcOk (μ : Mem) (B : Blk) (r : Ref) (n : Nat) (v : Value) : Prop :=
  r.off + n * B.sz ≤ B.cells.length ∧
  ((∃ c, v = .slice (some ⟨μ.blk r.id, μ.off r.id + r.off, none⟩) n c ∧ B.cells.length ≤ r.off + c * B.sz ∧ r.off + c * B.sz ≤ μ.phys r.id) ∨
   (n = 0 ∧ B.cells.length ≤ r.off ∧ ∃ a, v = .slice (some a) 0 0))
inductive VR (H : Heap) (μ : Mem) : AV → Value → Prop
  | top (v : Value) : VR H μ .top v
  | undef : VR H μ .undef Go.undef
  | bool (b : Bool) : VR H μ (.bool b) (.bool b)
  | int (k : IntKind) (n : Int) : VR H μ (.int k n) (.int k n)
  | flt (k : FloatKind) (b : Nat) : VR H μ (.flt k (canon k b)) (.float k b)
  | str (s : ByteArray) : VR H μ (.str s) (.string s)
  | nilptr : VR H μ .nilptr (.pointer none)
  | nilfn : VR H μ .nilfn .nilFunc
  | ptr (r : Ref) (v : Value) (B : Blk) (hB : H[r.id]? = some B) (hv : r.ver ≤ B.cells.length)
      (h : r.ver = B.cells.length → v = .pointer (some ⟨μ.blk r.id, μ.off r.id + r.off, none⟩)) : VR H μ (.ptr r) v
  | nilslc : VR H μ .nilslc (.slice none 0 0)
  | slc (r : Ref) (n : Nat) (v : Value) (B : Blk) (hB : H[r.id]? = some B) (hv : r.ver ≤ B.cells.length)
      (h : r.ver = B.cells.length → SlcOk μ B r n v) : VR H μ (.slc r n) v
  | fn (f : FuncId) (cs : List AV) (vs : Array Value) (hl : cs.length = vs.size)
      (h : ∀ (i : Nat) (c : AV) (v : Value), cs[i]? = some c → vs[i]? = some v → VR H μ c v) : VR H μ (.fn f cs) (.func (.func f) #[] vs)
  | agg (cs : List AV) (vs : Array Value) (hl : cs.length = vs.size)
      (h : ∀ (i : Nat) (c : AV) (v : Value), cs[i]? = some c → vs[i]? = some v → VR H μ c v) : VR H μ (.agg cs) (.agg vs)
  | tup (cs : List AV) (vs : Array Value) (hl : cs.length = vs.size)
      (h : ∀ (i : Nat) (c : AV) (v : Value), cs[i]? = some c → vs[i]? = some v → VR H μ c v) : VR H μ (.tup cs) (.tuple vs)
def VRs (H : Heap) (μ : Mem) (cs : List AV) (vs : Array Value) : Prop :=
  cs.length = vs.size ∧ ∀ (i : Nat) (c : AV) (v : Value), cs[i]? = some c → vs[i]? = some v → VR H μ c v
def Fz (fr : Nat × Nat) (n : Nat) : Prop := fr = (0, 0) ∨ n ≤ fr.1
structure HR (H : Heap) (μ : Mem) (w : World) : Prop where
  cells : ∀ (id : Nat) (B : Blk), H[id]? = some B → ∃ cs e fr, w.heap[μ.blk id]? = some (.cells cs e fr) ∧ cs.size = μ.off id + μ.phys id ∧ B.cells.length ≤ μ.phys id ∧
    (∀ (i : Nat) (c : AV), B.cells[i]? = some c → ∃ v, cs[μ.off id + i]? = some v ∧ VR H μ c v) ∧ (B.own = true → μ.off id = 0 ∧ Fz fr cs.size)
  apart : ∀ (i j : Nat) (Bi Bj : Blk), H[i]? = some Bi → H[j]? = some Bj → Bi.own = true → i ≠ j → μ.blk i ≠ μ.blk j
  flat : ∀ (id : Nat) (B : Blk), H[id]? = some B → B.flat = true → ∀ c ∈ B.cells, c.isFlat = true
structure Adv (H : Heap) (μ : Mem) (w : World) (H' : Heap) (μ' : Mem) (w' : World) : Prop where
  size : w.heap.size ≤ w'.heap.size
  os : w'.os = w.os
  tape : w'.tape = w.tape
  output : w'.output = w.output
  block : ∀ b : Nat, b < w.heap.size → (∀ (id : Nat) (B : Blk), H[id]? = some B → B.own = true → μ.blk id ≠ b) → w'.heap[b]? = w.heap[b]?
  own : ∀ (id : Nat) (B : Blk), H'[id]? = some B → B.own = true → w.heap.size ≤ μ'.blk id ∨ ∃ (id₀ : Nat) (B₀ : Blk), H[id₀]? = some B₀ ∧ B₀.own = true ∧ μ.blk id₀ = μ'.blk id
  evo : ∀ (id : Nat) (B : Blk), H[id]? = some B → ∃ B', H'[id]? = some B' ∧ B'.own = B.own ∧ B'.sz = B.sz ∧ B.cells.length ≤ B'.cells.length ∧
    (B'.cells.length = B.cells.length → μ'.blk id = μ.blk id ∧ μ'.off id = μ.off id ∧ μ'.phys id = μ.phys id)
theorem Adv.refl (H : Heap) (μ : Mem) (w : World) : Adv H μ w H μ w :=
  ⟨Nat.le_refl _, rfl, rfl, rfl, fun _ _ _ => rfl, fun id B h ho => .inr ⟨id, B, h, ho, rfl⟩, fun _ B h => ⟨B, h, rfl, rfl, Nat.le_refl _, fun _ => ⟨rfl, rfl, rfl⟩⟩⟩
theorem Adv.trans {H H₁ H₂ : Heap} {μ μ₁ μ₂ : Mem} {w w₁ w₂ : World} (a : Adv H μ w H₁ μ₁ w₁) (b : Adv H₁ μ₁ w₁ H₂ μ₂ w₂) : Adv H μ w H₂ μ₂ w₂ where
  size := Nat.le_trans a.size b.size
  os := b.os.trans a.os
  tape := b.tape.trans a.tape
  output := b.output.trans a.output
  block := fun x hx hn => by
    rw [b.block x (Nat.lt_of_lt_of_le hx a.size) ?_, a.block x hx hn]
    intro id B hB ho he
    rcases a.own id B hB ho with h | ⟨i, Bi, h1, h2, h3⟩
    · omega
    · exact hn i Bi h1 h2 (h3.trans he)
  own := fun id B hB ho => by
    rcases b.own id B hB ho with h | ⟨i, Bi, h1, h2, h3⟩
    · exact .inl (Nat.le_trans a.size h)
    · rcases a.own i Bi h1 h2 with h | ⟨j, Bj, g1, g2, g3⟩
      · exact .inl (h3 ▸ h)
      · exact .inr ⟨j, Bj, g1, g2, g3.trans h3⟩
  evo := fun id B hB => by
    obtain ⟨B₁, h1, h2, h3, h4, h5⟩ := a.evo id B hB
    obtain ⟨B₂, g1, g2, g3, g4, g5⟩ := b.evo id B₁ h1
    refine ⟨B₂, g1, g2.trans h2, g3.trans h3, Nat.le_trans h4 g4, fun he => ?_⟩
    obtain ⟨e1, e2, e3⟩ := h5 (by omega)
    obtain ⟨f1, f2, f3⟩ := g5 (by omega)
    exact ⟨f1.trans e1, f2.trans e2, f3.trans e3⟩
theorem VR.adv {H H' : Heap} {μ μ' : Mem} {w w' : World} (ha : Adv H μ w H' μ' w') {av : AV} {v : Value} (h : VR H μ av v) : VR H' μ' av v := by
  induction h with
  | top v => exact .top v
  | undef => exact .undef
  | bool b => exact .bool b
  | int k n => exact .int k n
  | flt k b => exact .flt k b
  | str s => exact .str s
  | nilptr => exact .nilptr
  | nilfn => exact .nilfn
  | nilslc => exact .nilslc
  | ptr r v B hB hv h =>
    obtain ⟨B', h1, h2, h3, h4, h5⟩ := ha.evo _ B hB
    refine .ptr r v B' h1 (Nat.le_trans hv h4) fun he => ?_
    obtain ⟨e1, e2, e3⟩ := h5 (by omega)
    rw [e1, e2]; exact h (by omega)
  | slc r n v B hB hv h =>
    obtain ⟨B', h1, h2, h3, h4, h5⟩ := ha.evo _ B hB
    refine .slc r n v B' h1 (Nat.le_trans hv h4) fun he => ?_
    have hl : B'.cells.length = B.cells.length := by omega
    obtain ⟨e1, e2, e3⟩ := h5 hl
    obtain ⟨k1, k2⟩ := h (by omega)
    refine ⟨by rw [h3, hl]; exact k1, ?_⟩
    rw [h3, hl, e1, e2, e3]; exact k2
  | fn f cs vs hl h ih => exact .fn f cs vs hl fun i c v hc hv => ih i c v hc hv
  | agg cs vs hl h ih => exact .agg cs vs hl fun i c v hc hv => ih i c v hc hv
  | tup cs vs hl h ih => exact .tup cs vs hl fun i c v hc hv => ih i c v hc hv
theorem VRs.adv {H H' : Heap} {μ μ' : Mem} {w w' : World} (ha : Adv H μ w H' μ' w') {cs : List AV} {vs : Array Value} (h : VRs H μ cs vs) : VRs H' μ' cs vs :=
  ⟨h.1, fun i c v hc hv => (h.2 i c v hc hv).adv ha⟩
theorem VR.of_flat {H H' : Heap} {μ μ' : Mem} {av : AV} {v : Value} (hf : av.isFlat = true) (h : VR H μ av v) : VR H' μ' av v := by
  cases h <;> first | (simp [AV.isFlat] at hf; done) | constructor
def absC : Value → AV
  | .bool b => .bool b
  | .int k n => .int k n
  | .float k b => .flt k (canon k b)
  | .string s => .str s
  | .pointer none => .nilptr
  | .nilFunc => .nilfn
  | .slice none 0 0 => .nilslc
  | _ => .top
def absV : Value → AV
  | .agg cs => .agg (cs.toList.map absC)
  | v => absC v
theorem VR.absC (H : Heap) (μ : Mem) (v : Value) : VR H μ (absC v) v := by
  unfold AM.absC
  split <;> constructor
theorem VR.absV (H : Heap) (μ : Mem) (v : Value) : VR H μ (absV v) v := by
  unfold AM.absV
  split
  · refine .agg _ _ (by simp) fun i c v hc hv => ?_
    rw [List.getElem?_map, Array.getElem?_toList, hv] at hc
    cases hc
    exact VR.absC H μ v
  · exact VR.absC H μ _
def ER (H : Heap) (μ : Mem) (env : Env) (a : Act) : Prop := a.defers = [] ∧ VRs H μ env a.tmps
def evA (env : Env) : Operand → AV
  | .tmp t => (env[t]?).getD .top
  | .const v => absV v
  | .global _ => .top
  | .func f => .fn f []
theorem ER.eval {H : Heap} {μ : Mem} {env : Env} {a : Act} (h : ER H μ env a) (x : Operand) : VR H μ (evA env x) (a.eval x) := by
  obtain ⟨_, hl, hv⟩ := h
  cases x with
  | tmp t =>
    simp only [evA, Act.eval]
    cases he : env[t]? with
    | none => exact .top _
    | some c =>
      have ht : t < a.tmps.size := by rw [← hl]; exact (List.getElem?_eq_some_iff.1 he).1
      rw [Array.getD_eq_getD_getElem?, Array.getElem?_eq_getElem ht]
      exact hv t c _ he (Array.getElem?_eq_getElem ht)
  | const v => exact VR.absV H μ v
  | global g => exact .top _
  | func f => exact .fn f [] #[] rfl (by simp)
theorem ER.adv {H H' : Heap} {μ μ' : Mem} {w w' : World} (ha : Adv H μ w H' μ' w') {env : Env} {a : Act} (h : ER H μ env a) : ER H' μ' env a :=
  ⟨h.1, h.2.adv ha⟩
def putA (env : Env) : Option Tmp → AV → Env
  | some d, v => env.set d v
  | none, _ => env
theorem ER.put {H : Heap} {μ : Mem} {env : Env} {a : Act} (h : ER H μ env a) (d : Option Tmp) {x : AV} {v : Value} (hv : VR H μ x v) : ER H μ (putA env d x) (a.put d v) := by
  cases d with
  | none => exact h
  | some d =>
    obtain ⟨h1, h2, h3⟩ := h
    refine ⟨h1, by simp [putA, Act.put, h2], fun i c u hc hu => ?_⟩
    simp only [putA, Act.put] at hc hu
    rw [List.getElem?_set] at hc
    rw [Array.getElem?_setIfInBounds] at hu
    by_cases hd : d = i
    · subst hd
      rw [if_pos rfl] at hc hu
      have hlt : d < env.length := by
        rcases Nat.lt_or_ge d env.length with h | h
        · exact h
        · rw [if_neg (by omega)] at hc; cases hc
      rw [if_pos hlt] at hc
      have ht : d < a.tmps.size := by rw [← h2]; exact hlt
      rw [if_pos ht] at hu
      cases hc; cases hu; exact hv
    · rw [if_neg hd] at hc hu
      exact h3 i c u hc hu
def AV.le : AV → AV → Prop
  | .top, _ => True
  | a, b => a = b
theorem VR.le {H : Heap} {μ : Mem} {x y : AV} {v : Value} (hl : x.le y) (h : VR H μ y v) : VR H μ x v := by
  cases x <;> simp only [AV.le] at hl <;> first | exact .top v | (subst hl; exact h)
def EnvLe (e e' : Env) : Prop := e.length = e'.length ∧ ∀ (i : Nat) (x y : AV), e[i]? = some x → e'[i]? = some y → x.le y
theorem ER.le {H : Heap} {μ : Mem} {e e' : Env} {a : Act} (hl : EnvLe e e') (h : ER H μ e' a) : ER H μ e a := by
  obtain ⟨h1, h2, h3⟩ := h
  refine ⟨h1, hl.1.trans h2, fun i c v hc hv => ?_⟩
  have hi : i < e'.length := by rw [← hl.1]; exact (List.getElem?_eq_some_iff.1 hc).1
  exact (h3 i _ v (List.getElem?_eq_getElem hi) hv).le (hl.2 i c _ hc (List.getElem?_eq_getElem hi))
end Go.Proofs.Ytmgpbchacndndaa.AM
