/- Own framework, part 2: the abstract operations, and how they are read off the program's. -/
import Derived.Test.YtnbamdhmhnhneaaB1
import Derived.Deep.AppendSrc
import Derived.Laws.MakeOwn
import Derived.Laws.Slices
import Derived.Laws.IdiomCopy
import Derived.WalkKit
set_option linter.unusedVariables false
set_option linter.unusedSimpArgs false
namespace Go.AB
open Go.RowKit

abbrev Env := Nat → Option Value

/-- An operand: what an earlier operation of the region gave (0: the last one), a variable, a constant, a function. -/
inductive AOpd where
  | r (k : Nat)
  | v (t : Nat)
  | k (c : Value)
  | f (n : FuncId)

def ev (rs : List Value) (e : Env) : AOpd → Option Value
  | .r k => rs[k]?
  | .v t => e t
  | .k c => some c
  | .f n => some (.func (.func n) #[] #[])

inductive AOp where
  | mv (x : AOpd)
  | pick (c a b : AOpd)
  | alloc (ty : TypeId) (zs : List Value)
  | box (ty : TypeId) (x : AOpd)
  | build (zs : List Value) (places : List (Nat × Nat)) (parts : List (Nat × AOpd))
  | mksl (ty : TypeId) (sz len : Nat) (zs : List Value) (parts : List (Nat × AOpd))
  | ld (x : AOpd)
  | ldn (n : Nat) (x : AOpd)
  | st (n : Nat) (x y : AOpd)
  | nilck (x : AOpd)
  | bin (op : BinOp) (x y : AOpd)
  | un (op : UnOp) (x : AOpd)
  | cvi (k : IntKind) (x : AOpd)
  | ifc (t : TypeId) (x : AOpd)
  | fn (n : Fn) (first caps : List AOpd)
  | mks (ty : TypeId) (zs : List Value) (bytes : Nat) (l c : AOpd)
  | slc (ty : TypeId) (sz : Nat) (x : AOpd) (lo hi : Option AOpd)
  | fa (off : Nat) (x : AOpd)
  | fld (off : Nat) (n : Option Nat) (x : AOpd)
  | ia (sz : Nat) (x i : AOpd)
  | ext (k : Nat) (x : AOpd)
  | len (x : AOpd)
  | app (ty : TypeId) (sz bytes : Nat) (x y : AOpd)
  | mn (xs : List AOpd)
  | call (f : FuncId) (xs : List AOpd)
  | callv (x : AOpd) (xs : List AOpd)
  | bad
  | copy (sz : Nat) (x y : AOpd)

def cellsAt (H : AHeap) (b : Nat) : Option (List Value) :=
  match H.get b with
  | .cells vs _ => some vs
  | .ro vs => some vs
  | _ => none

/-- n cells from a place on. -/
def seg (vs : List Value) (off n : Nat) : Option (List Value) := if off + n ≤ vs.length then some ((vs.drop off).take n) else none

def splice (vs : List Value) (off : Nat) (ys : List Value) : List Value := vs.take off ++ ys ++ vs.drop (off + ys.length)

/-- The cells of a slice's elements. -/
def elems (H : AHeap) (sz : Nat) : Value → Option (List Value)
  | .slice none 0 0 => some []
  | .slice (some a) len _ => match cellsAt H a.block with
    | some vs => seg vs a.off (len * sz)
    | none => none
  | _ => none

def abin (op : BinOp) : Value → Value → Option Value
  | .int k a, .int k' b =>
    match op with
    | .shl => if 0 ≤ b then some (.int k (k.wrap (a * 2 ^ min b.toNat k.bits))) else none
    | .shr => if 0 ≤ b then some (.int k (a.fdiv (2 ^ min b.toNat k.bits))) else none
    | op => if k = k' then (match op with
      | .add => some (.int k (k.wrap (a + b)))
      | .sub => some (.int k (k.wrap (a - b)))
      | .mul => some (.int k (k.wrap (a * b)))
      | .quo => if b = 0 then none else some (.int k (k.wrap (a.tdiv b)))
      | .rem => if b = 0 then none else some (.int k (a.tmod b))
      | .and => some (.int k (Go.bits .and k a b))
      | .or => some (.int k (Go.bits .or k a b))
      | .xor => some (.int k (Go.bits .xor k a b))
      | .andNot => some (.int k (Go.bits .andNot k a b))
      | .eql => some (.bool (a == b))
      | .neq => some (.bool (a != b))
      | .lss => some (.bool (decide (a < b)))
      | .leq => some (.bool (decide (a ≤ b)))
      | .gtr => some (.bool (decide (b < a)))
      | .geq => some (.bool (decide (b ≤ a)))
      | _ => none) else none
  | _, _ => none

def aun (op : UnOp) : Value → Option Value
  | .bool b => match op with
    | .not => some (.bool (!b))
    | _ => none
  | .int k a => match op with
    | .neg => some (.int k (k.wrap (0 - a)))
    | .xor => some (.int k (Go.bits .xor k (if k.signed then -1 else k.max) a))
    | _ => none
  | _ => none

def pickV (t : Bool) : Value → Value → Value
  | .bool p, .bool q => .bool (bif t then p else q)
  | a, b => bif t then a else b

def evs (ρ : AOpd → Option Value) : List AOpd → Option (List Value)
  | [] => some []
  | x :: xs => match ρ x, evs ρ xs with
    | some v, some vs => some (v :: vs)
    | _, _ => none
def evp (ρ : AOpd → Option Value) : List (Nat × AOpd) → Option (List (Nat × Value))
  | [] => some []
  | (i, x) :: xs => match ρ x, evp ρ xs with
    | some v, some vs => some ((i, v) :: vs)
    | _, _ => none

def evo (ρ : AOpd → Option Value) : Option AOpd → Option (Option Value)
  | none => some none
  | some x => match ρ x with
    | some v => some (some v)
    | none => none

/-- A cut's bounds: where it begins and ends. -/
def cutAt (len : Nat) : Option Value → Option Value → Option (Nat × Nat)
  | none, none => some (0, len)
  | some (.int _ l), none => if 0 ≤ l ∧ l ≤ (len : Int) then some (l.toNat, len) else none
  | none, some (.int _ h) => if 0 ≤ h ∧ h ≤ (len : Int) then some (0, h.toNat) else none
  | some (.int _ l), some (.int _ h) => if 0 ≤ l ∧ l ≤ h ∧ h ≤ (len : Int) then some (l.toNat, h.toNat) else none
  | _, _ => none

def rowOk (H : AHeap) (ty : TypeId) (b : Nat) : Bool :=
  match H.get b with
  | .cells _ ty' => ty' == ty
  | .ro _ => true
  | _ => false

def sliceV (H : AHeap) (ty : TypeId) (sz : Nat) (x : Value) (lo hi : Option Value) : Option Value :=
  match x with
  | .slice none 0 0 => match cutAt 0 lo hi with
    | some _ => some (.slice none 0 0)
    | none => none
  | .slice (some a) len _ => match cutAt len lo hi with
    | some (l, h) => if rowOk H ty a.block then some (.slice (some ⟨a.block, a.off + l * sz, none⟩) (h - l) (h - l)) else none
    | none => none
  | _ => none

def minL : Value → List Value → Option Value
  | .int k a, [] => some (.int k a)
  | .int k a, .int _ b :: r => minL (.int k (if b < a then b else a)) r
  | _, _ => none

def appV (H : AHeap) (ty : TypeId) (sz bytes : Nat) (x y : Value) : Option (Value × AHeap) :=
  match x, elems H sz y, y with
  | .slice none 0 0, some ys, .slice _ n _ =>
    if n = 0 then some (.slice none 0 0, H)
    else if n * bytes ≤ 2 ^ 46 ∧ n ≤ 2 ^ 46 then some (.slice (some ⟨H.n, 0, none⟩) n n, H.alloc (.cells ys ty)) else none
  | .slice (some a) len _, some ys, .slice _ n _ =>
    (match H.get a.block with
    | .cells vs ty' => if ty' = ty ∧ a.off + len * sz ≤ vs.length ∧ (len + n) * bytes ≤ 2 ^ 46 ∧ len + n ≤ 2 ^ 46 then
        some (.slice (some ⟨H.n, 0, none⟩) (len + n) (len + n), (H.set a.block .dead).alloc (.cells ((vs.drop a.off).take (len * sz) ++ ys) ty)) else none
    | _ => none)
  | _, _, _ => none

def copyV (H : AHeap) (sz : Nat) (x y : Value) : Option (Value × AHeap) :=
  match x, elems H sz y, y with
  | .slice none 0 0, some _, .slice _ _ _ => some (.int .i64 0, H)
  | .slice (some a) len _, some ys, .slice _ n _ =>
    (match H.get a.block with
    | .cells vs ty => if a.off + min n len * sz ≤ vs.length then some (.int .i64 (min n len : Nat), H.set a.block (.cells (splice vs a.off (ys.take (min n len * sz))) ty)) else none
    | _ => none)
  | _, _, _ => none

/-- What an operation that calls nothing comes to. -/
def aop (q : AOp) (ρ : AOpd → Option Value) (H : AHeap) : Option (Value × AHeap) :=
  match q with
  | .mv x => match ρ x with
    | some v => some (v, H)
    | none => none
  | .pick c a b => match ρ c, ρ a, ρ b with
    | some (.bool t), some x, some y => some (pickV t x y, H)
    | _, _, _ => none
  | .alloc ty zs => some (.pointer (some ⟨H.n, 0, none⟩), H.alloc (.cells zs ty))
  | .box ty x => match ρ x with
    | some v => if isTup v then none else some (.pointer (some ⟨H.n, 0, none⟩), H.alloc (.cells v.cells.toList ty))
    | none => none
  | .build zs places parts => match evp ρ parts with
    | some ps => if ps.any (fun p => isTup p.2) then none else (match Instr.fill (fun i => places[i]?) zs.toArray ps with
      | some c => some (.agg c, H)
      | none => none)
    | none => none
  | .mksl ty sz len zs parts => match evp ρ parts with
    | some ps => if ps.any (fun p => isTup p.2) then none else (match Instr.fill (fun i => some (i * sz, sz)) zs.toArray ps with
      | some c => some (.slice (some ⟨H.n, 0, none⟩) len len, H.alloc (.cells c.toList ty))
      | none => none)
    | none => none
  | .ld x => match ρ x with
    | some (.pointer (some a)) => match cellsAt H a.block with
      | some vs => match vs[a.off]? with
        | some v => some (v, H)
        | none => none
      | none => none
    | _ => none
  | .ldn n x => match ρ x with
    | some (.pointer (some a)) => match cellsAt H a.block with
      | some vs => match seg vs a.off n with
        | some ws => some (.agg ws.toArray, H)
        | none => none
      | none => none
    | _ => none
  | .st n x y => match ρ x, ρ y with
    | some (.pointer (some a)), some v => match H.get a.block with
      | .cells vs ty => if isTup v = false ∧ v.cells.toList.length = n ∧ a.off + n ≤ vs.length then some (.tuple #[], H.set a.block (.cells (splice vs a.off v.cells.toList) ty)) else none
      | _ => none
    | _, _ => none
  | .nilck x => match ρ x with
    | some (.pointer (some a)) => some (.pointer (some a), H)
    | some (.func (.func n) fs cs) => some (.func (.func n) fs cs, H)
    | _ => none
  | .bin op x y => match ρ x, ρ y with
    | some a, some b => match abin op a b with
      | some v => some (v, H)
      | none => none
    | _, _ => none
  | .un op x => match ρ x with
    | some a => match aun op a with
      | some v => some (v, H)
      | none => none
    | none => none
  | .cvi k x => match ρ x with
    | some (.int _ n) => some (.int k (k.wrap n), H)
    | _ => none
  | .ifc t x => match ρ x with
    | some v => some (.iface t v, H)
    | none => none
  | .fn n fs cs => match evs ρ fs, evs ρ cs with
    | some a, some b => some (.func n a.toArray b.toArray, H)
    | _, _ => none
  | .mks ty zs bytes l c => match ρ l, ρ c with
    | some (.int _ n), some (.int _ m) =>
      if n = m ∧ 0 ≤ n ∧ n * bytes ≤ 2 ^ 46 ∧ n ≤ 2 ^ 46 then some (.slice (some ⟨H.n, 0, none⟩) n.toNat n.toNat, H.alloc (.cells (List.replicate n.toNat zs).flatten ty)) else none
    | _, _ => none
  | .slc ty sz x lo hi => match ρ x, evo ρ lo, evo ρ hi with
    | some v, some l, some h => match sliceV H ty sz v l h with
      | some u => some (u, H)
      | none => none
    | _, _, _ => none
  | .fa off x => match ρ x with
    | some (.pointer (some a)) => some (.pointer (some ⟨a.block, a.off + off, none⟩), H)
    | _ => none
  | .fld off n x => match ρ x with
    | some (.agg cs) => match n with
      | none => match cs[off]? with
        | some v => some (v, H)
        | none => none
      | some n => if off + n ≤ cs.size then some (.agg (cs.extract off (off + n)), H) else none
    | _ => none
  | .ia sz x i => match ρ x, ρ i with
    | some (.slice (some a) len _), some (.int _ n) => if 0 ≤ n ∧ n < (len : Int) then some (.pointer (some ⟨a.block, a.off + n.toNat * sz, none⟩), H) else none
    | _, _ => none
  | .ext k x => match ρ x with
    | some (.tuple vs) => match vs[k]? with
      | some v => some (v, H)
      | none => none
    | _ => none
  | .len x => match ρ x with
    | some (.slice _ n _) => some (.int .i64 n, H)
    | _ => none
  | .app ty sz bytes x y => match ρ x, ρ y with
    | some a, some b => appV H ty sz bytes a b
    | _, _ => none
  | .mn xs => match evs ρ xs with
    | some (v :: vs) => match minL v vs with
      | some u => some (u, H)
      | none => none
    | _ => none
  | .call _ _ => none
  | .callv _ _ => none
  | .bad => none
  | .copy sz x y => match ρ x, ρ y with
    | some a, some b => copyV H sz a b
    | _, _ => none

/-- What an operation does to the heap: nothing at all (0), it reads a block (1), it makes a new object (2), it may turn old ones (3). -/
def cls : AOp → Nat
  | .mv _ | .pick _ _ _ | .build _ _ _ | .nilck _ | .bin _ _ _ | .un _ _ | .cvi _ _ | .ifc _ _ | .fn _ _ _ | .fa _ _ | .fld _ _ _ | .ia _ _ _ | .ext _ _ | .len _ | .mn _ | .bad => 0
  | .ld _ | .ldn _ _ | .slc _ _ _ _ _ => 1
  | .alloc _ _ | .box _ _ | .mksl _ _ _ _ _ | .mks _ _ _ _ _ => 2
  | .st _ _ _ | .app _ _ _ _ _ | .copy _ _ _ | .call _ _ | .callv _ _ => 3

/-- The block that it reads, or makes. -/
def touch (q : AOp) (ρ : AOpd → Option Value) (H : AHeap) : Option Nat :=
  match q with
  | .ld x | .ldn _ x => match ρ x with
    | some (.pointer (some a)) => some a.block
    | _ => none
  | .slc _ _ x _ _ => match ρ x with
    | some (.slice (some a) _ _) => some a.block
    | _ => none
  | .alloc _ _ | .box _ _ | .mksl _ _ _ _ _ | .mks _ _ _ _ _ => some H.n
  | _ => none

/-! ### Reading them off the program -/
def constOk : Value → Bool
  | .bool _ | .int _ _ | .string _ | .pointer none | .slice none 0 0 | .map none | .nilFunc | .nilIface => true
  | _ => false
theorem constOk_rel {ι : Inj} : ∀ {c : Value}, constOk c = true → RelV ι c c
  | .bool _, _ => .bool _
  | .int _ _, _ => .int _ _
  | .string _, _ => .string _
  | .pointer none, _ => .pnil
  | .slice none 0 0, _ => .snil
  | .map none, _ => .mnil
  | .nilFunc, _ => .nilFunc
  | .nilIface, _ => .nilIface
  | .pointer (some _), h => by simp [constOk] at h
  | .slice (some _) _ _, h => by simp [constOk] at h
  | .slice none (_ + 1) _, h => by simp [constOk] at h
  | .slice none 0 (_ + 1), h => by simp [constOk] at h
  | .map (some _), h => by simp [constOk] at h
  | .float _ _, h => by simp [constOk] at h
  | .complex _ _ _, h => by simp [constOk] at h
  | .chan _, h => by simp [constOk] at h
  | .func _ _ _, h => by simp [constOk] at h
  | .iface _ _, h => by simp [constOk] at h
  | .agg _, h => by simp [constOk] at h
  | .tuple _, h => by simp [constOk] at h

def cops (m : Operand → Option AOpd) : List Operand → Option (List AOpd)
  | [] => some []
  | x :: xs => match m x, cops m xs with
    | some v, some vs => some (v :: vs)
    | _, _ => none
def copp (m : Operand → Option AOpd) : List (Nat × Operand) → Option (List (Nat × AOpd))
  | [] => some []
  | (i, x) :: xs => match m x, copp m xs with
    | some v, some vs => some ((i, v) :: vs)
    | _, _ => none
def copo (m : Operand → Option AOpd) : Option Operand → Option (Option AOpd)
  | none => some none
  | some x => match m x with
    | some v => some (some v)
    | none => none

/-- The cells of a zero value, each of which may stand. -/
def zeroCs (P : Program) (t : TypeId) : Option (List Value) :=
  match P.info? t with
  | some i => match i.zero with
    | some z => if z.cells.toList.all constOk && decide (z.cells.size = i.size) then some z.cells.toList else none
    | none => none
  | none => none

def aggB (P : Program) (t : TypeId) : Option Bool :=
  match P.underlying t with
  | some (.struct _) | some (.array _ _) => some true
  | some _ => some false
  | none => none

def sizeQ (P : Program) (t : TypeId) : Option Nat := (P.info? t).map (·.size)

def placesOf (P : Program) : List Field → Option (List (Nat × Nat))
  | [] => some []
  | f :: fs => match sizeQ P f.type, placesOf P fs with
    | some s, some r => some ((f.offset, s) :: r)
    | _, _ => none

def isIntT (P : Program) (t : TypeId) : Option IntKind :=
  match P.underlying t with
  | some (.int k) => some k
  | _ => none
def sliceT (P : Program) (t : TypeId) : Option TypeId :=
  match P.underlying t with
  | some (.slice e) => some e
  | _ => none
def structT (P : Program) (t : TypeId) : Option (Array Field) :=
  match P.underlying t with
  | some (.struct fs) => some fs
  | _ => none

def mkZs (zs : List Value) (n : Nat) : List Value := ((Array.range n).map (zs.toArray[· % zs.toArray.size]!)).toList

def cop (P : Program) (m : Operand → Option AOpd) : Op → Option AOp
  | .move x | .assign x => (m x).map .mv
  | .pick c a b => match m c, m a, m b with
    | some c, some a, some b => some (.pick c a b)
    | _, _, _ => none
  | .alloc t => (zeroCs P t).map (.alloc t)
  | .box t x => (m x).map (.box t)
  | .build t ps => match structT P t, zeroCs P t, copp m ps.toList with
    | some fs, some zs, some qs => (placesOf P fs.toList).map fun pl => .build zs pl qs
    | _, _, _ => none
  | .buildSlice t len ps => match sliceT P t, copp m ps.toList with
    | some e, some qs => match zeroCs P e, sizeQ P e with
      | some zs, some sz => if len * sz ≤ 2 ^ 24 ∧ 0 < sz then some (.mksl e sz len (mkZs zs (len * sz)) qs) else none
      | _, _ => none
    | _, _ => none
  | .load t x => match aggB P t, sizeQ P t, m x with
    | some true, some n, some x => some (.ldn n x)
    | some false, some _, some x => some (.ld x)
    | _, _, _ => none
  | .store t x y => match sizeQ P t, m x, m y with
    | some n, some x, some y => some (.st n x y)
    | _, _, _ => none
  | .nilCheck x => (m x).map .nilck
  | .binOp op _ x y _ => match m x, m y with
    | some x, some y => some (.bin op x y)
    | _, _ => none
  | .unOp op _ x => (m x).map (.un op)
  | .convert s d x => match isIntT P s, isIntT P d, m x with
    | some _, some k, some x => some (.cvi k x)
    | _, _, _ => none
  | .makeInterface t x => match P.underlying t with
    | some (.interface _) => none
    | some _ => (m x).map (.ifc t)
    | none => none
  | .makeFunc n fs cs => match cops m fs.toList, cops m cs.toList with
    | some a, some b => some (.fn n a b)
    | _, _ => none
  | .makeSlice t l c => match sliceT P t, m l, m c with
    | some e, some l, some c => match zeroCs P e, P.info? e with
      | some zs, some i => if 0 < i.size then some (.mks e zs i.bytes l c) else none
      | _, _ => none
    | _, _, _ => none
  | .slice t x lo hi none => match sliceT P t, m x, copo m lo, copo m hi with
    | some e, some x, some lo, some hi => (sizeQ P e).map fun sz => .slc e sz x lo hi
    | _, _, _, _ => none
  | .fieldAddr s x f => match structT P s, m x with
    | some fs, some x => match fs[f]? with
      | some fd => match sizeQ P fd.type with
        | some 0 => none
        | some _ => some (.fa fd.offset x)
        | none => none
      | none => none
    | _, _ => none
  | .field s x f => match structT P s, m x with
    | some fs, some x => match fs[f]? with
      | some fd => match aggB P fd.type, sizeQ P fd.type with
        | some true, some n => some (.fld fd.offset (some n) x)
        | some false, some _ => some (.fld fd.offset none x)
        | _, _ => none
      | none => none
    | _, _ => none
  | .indexAddr t x i => match sliceT P t, m x, m i with
    | some e, some x, some i => (sizeQ P e).map fun sz => .ia sz x i
    | _, _, _ => none
  | .extract x k => (m x).map (.ext k)
  | .call c => match c.callee with
    | .builtin .len => match c.argTypes.toList, c.args.toList with
      | [t], [x] => match sliceT P t, m x with
        | some _, some x => some (.len x)
        | _, _ => none
      | _, _ => none
    | .builtin .append => match c.argTypes.toList, c.args.toList with
      | [t, u], [x, y] => match sliceT P t, sliceT P u, m x, m y with
        | some e, some _, some x, some y => match P.info? e with
          | some i => match i.zero with
            | some z => if z.cells.size = i.size ∧ 0 < i.size then some (.app e i.size i.bytes x y) else none
            | none => none
          | none => none
        | _, _, _, _ => none
      | _, _ => none
    | .builtin .min => (cops m c.args.toList).map .mn
    | .builtin .copy => match c.argTypes.toList, c.args.toList with
      | [t, u], [x, y] => match sliceT P t, sliceT P u, m x, m y with
        | some e, some _, some x, some y => (match sizeQ P e with
          | some n => some (.copy n x y)
          | none => none)
        | _, _, _, _ => none
      | _, _ => none
    | .value (.func f) => match P.funcs[f]? with
      | some fn => match fn.body with
        | some _ => if (fn.name == "runtime.NumGoroutine") = false then (cops m c.args.toList).map (.call f) else none
        | none => none
      | none => none
    | .value (.tmp t) => match m (.tmp t), cops m c.args.toList with
      | some x, some xs => some (.callv x xs)
      | _, _ => none
    | _ => none
  | .panic _ => some .bad
  | _ => none

end Go.AB
