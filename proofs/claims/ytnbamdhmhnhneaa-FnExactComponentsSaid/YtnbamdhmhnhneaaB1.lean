/- Own framework, part 1: an abstract heap, and how its values stand to the machine's. -/
import Derived.Orders
import Derived.Below
set_option linter.unusedVariables false
set_option linter.unusedSimpArgs false
namespace Go.AB
open Go.RowKit

inductive AObj where
  | cells (vs : List Value) (ty : TypeId)
  | ro (vs : List Value)
  | map (es : List (Value × Value))
  | iter (s : ByteArray) (pos : Nat)
  | dead

def AObj.own : AObj → Bool
  | .cells .. | .map .. | .iter .. => true
  | _ => false

structure AHeap where
  n : Nat
  get : Nat → AObj
  fresh : ∀ i, n ≤ i → get i = .dead

def AHeap.alloc (H : AHeap) (o : AObj) : AHeap :=
  ⟨H.n + 1, fun i => if i = H.n then o else H.get i, fun i hi => by
    have h1 : i ≠ H.n := by omega
    simp only [h1, if_false]
    exact H.fresh i (by omega)⟩
def AHeap.set (H : AHeap) (b : Nat) (o : AObj) : AHeap :=
  ⟨H.n, fun i => if i = b then (match H.get b with | .dead => .dead | _ => o) else H.get i, fun i hi => by
    by_cases h : i = b
    · subst h; simp [H.fresh i hi]
    · simp only [h, if_false]; exact H.fresh i hi⟩

theorem AHeap.lt_of {H : AHeap} {b : Nat} {o : AObj} (h : H.get b = o) (ho : o ≠ .dead) : b < H.n := by
  rcases Nat.lt_or_ge b H.n with h1 | h1
  · exact h1
  · exact absurd (h.symm.trans (H.fresh b h1)) ho
@[simp] theorem AHeap.alloc_n (H : AHeap) (o : AObj) : (H.alloc o).n = H.n + 1 := rfl
@[simp] theorem AHeap.set_n (H : AHeap) (b : Nat) (o : AObj) : (H.set b o).n = H.n := rfl
theorem AHeap.alloc_self (H : AHeap) (o : AObj) : (H.alloc o).get H.n = o := by simp [AHeap.alloc]
theorem AHeap.alloc_ne (H : AHeap) (o : AObj) {b : Nat} (h : b ≠ H.n) : (H.alloc o).get b = H.get b := by simp [AHeap.alloc, h]
theorem AHeap.alloc_old {H : AHeap} {o x : AObj} {b : Nat} (h : H.get b = x) (hx : x ≠ .dead) : (H.alloc o).get b = x := by
  rw [AHeap.alloc_ne H o (Nat.ne_of_lt (AHeap.lt_of h hx)), h]
theorem AHeap.set_self {H : AHeap} {b : Nat} {o : AObj} (h : H.get b ≠ .dead) : (H.set b o).get b = o := by
  simp only [AHeap.set, if_true]
theorem AHeap.set_ne (H : AHeap) {b c : Nat} (o : AObj) (h : c ≠ b) : (H.set b o).get c = H.get c := by simp [AHeap.set, h]

/-- What the block behind an abstract object is: its number, where the object begins in it, an element's cells, how many cells it has. -/
structure BI where
  cb : Nat
  d : Nat
  esz : Nat
  sz : Nat
  ro : Bool
abbrev Inj := Nat → Option BI

inductive RelV (ι : Inj) : Value → Value → Prop
  | bool (b : Bool) : RelV ι (.bool b) (.bool b)
  | int (k : IntKind) (n : Int) : RelV ι (.int k n) (.int k n)
  | string (s : ByteArray) : RelV ι (.string s) (.string s)
  | pnil : RelV ι (.pointer none) (.pointer none)
  | ptr {b off : Nat} {i : BI} (h : ι b = some i) : RelV ι (.pointer (some ⟨b, off, none⟩)) (.pointer (some ⟨i.cb, off + i.d, none⟩))
  | snil : RelV ι (.slice none 0 0) (.slice none 0 0)
  | slice {b off off' len cap cap' : Nat} {i : BI} (h : ι b = some i) (hl : len ≤ cap') (hr : i.ro = true ∨ off' + cap' * i.esz ≤ i.sz) (ho : len = 0 ∨ off' = off + i.d) :
      RelV ι (.slice (some ⟨b, off, none⟩) len cap) (.slice (some ⟨i.cb, off', none⟩) len cap')
  | sany {b off cap : Nat} {a : Addr} {i : BI} (h : ι b = some i) (hr : i.ro = true) : RelV ι (.slice (some ⟨b, off, none⟩) 0 cap) (.slice (some a) 0 0)
  | mnil : RelV ι (.map none) (.map none)
  | map {b : Nat} {i : BI} (h : ι b = some i) : RelV ι (.map (some b)) (.map (some i.cb))
  | nilFunc : RelV ι .nilFunc .nilFunc
  | func {fn : Fn} {f1 f2 c1 c2 : Array Value} (h1 : f1.size = f2.size) (h2 : c1.size = c2.size)
      (h3 : ∀ (j : Nat) (x y : Value), f1[j]? = some x → f2[j]? = some y → RelV ι x y) (h4 : ∀ (j : Nat) (x y : Value), c1[j]? = some x → c2[j]? = some y → RelV ι x y) :
      RelV ι (.func fn f1 c1) (.func fn f2 c2)
  | nilIface : RelV ι .nilIface .nilIface
  | iface {t : TypeId} {x y : Value} (h : RelV ι x y) : RelV ι (.iface t x) (.iface t y)
  | agg {c1 c2 : Array Value} (h1 : ∀ x ∈ c1.toList, x.oneCell' = true) (h2 : c1.size = c2.size) (h4 : ∀ (j : Nat) (x y : Value), c1[j]? = some x → c2[j]? = some y → RelV ι x y) : RelV ι (.agg c1) (.agg c2)
  | tuple {c1 c2 : Array Value} (h2 : c1.size = c2.size) (h4 : ∀ (j : Nat) (x y : Value), c1[j]? = some x → c2[j]? = some y → RelV ι x y) : RelV ι (.tuple c1) (.tuple c2)

def Inj.le (ι ι' : Inj) : Prop := ∀ b i, ι b = some i → ι' b = some i
theorem Inj.le_refl (ι : Inj) : ι.le ι := fun _ _ h => h
theorem Inj.le_trans {a b c : Inj} (h : a.le b) (k : b.le c) : a.le c := fun _ _ hh => k _ _ (h _ _ hh)

theorem RelV.mono {ι ι' : Inj} (hi : ι.le ι') {x y : Value} (h : RelV ι x y) : RelV ι' x y := by
  induction h with
  | bool b => exact .bool b
  | int k n => exact .int k n
  | string s => exact .string s
  | pnil => exact .pnil
  | ptr h => exact .ptr (hi _ _ h)
  | snil => exact .snil
  | slice h hl hr ho => exact .slice (hi _ _ h) hl hr ho
  | sany h hr => exact .sany (hi _ _ h) hr
  | mnil => exact .mnil
  | map h => exact .map (hi _ _ h)
  | nilFunc => exact .nilFunc
  | func h1 h2 _ _ ih3 ih4 => exact .func h1 h2 ih3 ih4
  | nilIface => exact .nilIface
  | iface _ ih => exact .iface ih
  | agg h1 h2 _ ih => exact .agg h1 h2 ih
  | tuple h2 _ ih => exact .tuple h2 ih

def RelL (ι : Inj) (xs ys : List Value) : Prop := xs.length = ys.length ∧ ∀ (j : Nat) (x y : Value), xs[j]? = some x → ys[j]? = some y → RelV ι x y
theorem RelL.nil {ι : Inj} : RelL ι [] [] := ⟨rfl, fun j x y h => by simp at h⟩
theorem RelL.cons {ι : Inj} {x y : Value} {xs ys : List Value} (h : RelV ι x y) (t : RelL ι xs ys) : RelL ι (x :: xs) (y :: ys) := by
  refine ⟨by simp [t.1], fun j a b ha hb => ?_⟩
  cases j with
  | zero => simp at ha hb; subst ha; subst hb; exact h
  | succ j => simp at ha hb; exact t.2 j a b ha hb
theorem RelL.head {ι : Inj} {x y : Value} {xs ys : List Value} (h : RelL ι (x :: xs) (y :: ys)) : RelV ι x y := h.2 0 x y rfl rfl
theorem RelL.tail {ι : Inj} {x y : Value} {xs ys : List Value} (h : RelL ι (x :: xs) (y :: ys)) : RelL ι xs ys :=
  ⟨by have := h.1; simpa using this, fun j a b ha hb => h.2 (j + 1) a b (by simpa using ha) (by simpa using hb)⟩
theorem RelL.mono {ι ι' : Inj} (hi : ι.le ι') {xs ys : List Value} (h : RelL ι xs ys) : RelL ι' xs ys := ⟨h.1, fun j x y a b => (h.2 j x y a b).mono hi⟩
theorem RelL.get {ι : Inj} {xs ys : List Value} (h : RelL ι xs ys) {j : Nat} {x : Value} (hx : xs[j]? = some x) : ∃ y, ys[j]? = some y ∧ RelV ι x y := by
  have hj : j < xs.length := (List.getElem?_eq_some_iff.1 hx).1
  have hj' : j < ys.length := by have := h.1; omega
  exact ⟨ys[j], List.getElem?_eq_getElem hj', h.2 j x _ hx (List.getElem?_eq_getElem hj')⟩
theorem RelL.append {ι : Inj} {xs ys as bs : List Value} (h : RelL ι xs ys) (k : RelL ι as bs) : RelL ι (xs ++ as) (ys ++ bs) := by
  refine ⟨by simp [h.1, k.1], fun j x y hx hy => ?_⟩
  have hl := h.1
  rcases Nat.lt_or_ge j xs.length with hj | hj
  · rw [List.getElem?_append_left hj] at hx
    rw [List.getElem?_append_left (by omega)] at hy
    exact h.2 j x y hx hy
  · rw [List.getElem?_append_right hj] at hx
    rw [List.getElem?_append_right (by omega)] at hy
    rw [← hl] at hy
    exact k.2 _ x y hx hy
theorem RelL.take {ι : Inj} {xs ys : List Value} (h : RelL ι xs ys) (n : Nat) : RelL ι (xs.take n) (ys.take n) := by
  refine ⟨by simp [h.1], fun j x y hx hy => ?_⟩
  rw [List.getElem?_take] at hx hy
  split at hx
  · rename_i hj; rw [if_pos hj] at hy; exact h.2 j x y hx hy
  · cases hx
theorem RelL.drop {ι : Inj} {xs ys : List Value} (h : RelL ι xs ys) (n : Nat) : RelL ι (xs.drop n) (ys.drop n) := by
  refine ⟨by simp [h.1], fun j x y hx hy => ?_⟩
  rw [List.getElem?_drop] at hx hy
  exact h.2 _ x y hx hy
theorem RelV.agg_list {ι : Inj} {xs ys : List Value} (h1 : ∀ x ∈ xs, x.oneCell' = true) (h : RelL ι xs ys) : RelV ι (.agg xs.toArray) (.agg ys.toArray) :=
  .agg (by simpa using h1) (by simpa using h.1) (fun j x y hx hy => h.2 j x y (by simpa using hx) (by simpa using hy))
theorem RelV.tuple_list {ι : Inj} {xs ys : List Value} (h : RelL ι xs ys) : RelV ι (.tuple xs.toArray) (.tuple ys.toArray) :=
  .tuple (by simpa using h.1) (fun j x y hx hy => h.2 j x y (by simpa using hx) (by simpa using hy))
theorem RelL.of_agg {ι : Inj} {c1 c2 : Array Value} (h : RelV ι (.agg c1) (.agg c2)) : RelL ι c1.toList c2.toList := by
  cases h with
  | agg h1 h2 h4 => exact ⟨by simpa using h2, fun j x y hx hy => h4 j x y (by simpa using hx) (by simpa using hy)⟩
/-- A value's cells. -/
theorem RelL.cells {ι : Inj} {x y : Value} (h : RelV ι x y) : RelL ι x.cells.toList y.cells.toList := by
  cases h with
  | agg h1 h2 h4 => exact RelL.of_agg (.agg h1 h2 h4)
  | _ => (try simp only [Value.cells]) <;> exact .cons (by first | exact .bool _ | exact .int _ _ | exact .string _ | exact .pnil | (exact .ptr ‹_›) | exact .snil | (exact .slice ‹_› ‹_› ‹_› ‹_›) | (exact .sany ‹_› ‹_›) | exact .mnil | (exact .map ‹_›) | exact .nilFunc | (exact .func ‹_› ‹_› ‹_› ‹_›) | exact .nilIface | (exact .iface ‹_›) | (exact .tuple ‹_› ‹_›)) .nil

theorem RelV.one {ι : Inj} {x y : Value} (h : RelV ι x y) (hx : x.oneCell' = true) : y.oneCell' = true := by
  cases h <;> first | rfl | (simp [Value.oneCell'] at hx)
def isTup : Value → Bool
  | .tuple _ => true
  | _ => false
/-- The cells of what is no tuple are each of one cell. -/
theorem RelV.flat {ι : Inj} {x y : Value} (h : RelV ι x y) (hx : isTup x = false) : ∀ u ∈ x.cells.toList, u.oneCell' = true := by
  cases h with
  | agg h1 h2 h4 => exact h1
  | tuple _ _ => simp [isTup] at hx
  | _ => intro u hu; simp [Value.cells] at hu; subst hu; rfl
/-- A run of cells in a block. -/
def Holds (ι : Inj) (vs : List Value) (cs : Array Value) (d : Nat) : Prop := ∀ (j : Nat) (x : Value), vs[j]? = some x → x.oneCell' = true ∧ ∃ y, cs[d + j]? = some y ∧ RelV ι x y
theorem Holds.mono {ι ι' : Inj} (hi : ι.le ι') {vs : List Value} {cs : Array Value} {d : Nat} (h : Holds ι vs cs d) : Holds ι' vs cs d :=
  fun j x hx => let ⟨o, y, hy, r⟩ := h j x hx; ⟨o, y, hy, r.mono hi⟩
/-- No cell of the block is shut. -/
def Unshut (fr : Nat × Nat) (sz : Nat) : Prop := ∀ j, j < sz → ¬ (fr.1 ≤ j ∧ j < fr.2)

def ObjRel (P : Program) (w0 : World) (ι : Inj) (i : BI) (w : World) : AObj → Prop
  | .cells vs ty => w0.heap.size ≤ i.cb ∧ i.ro = false ∧ i.esz = P.cellsOf ty ∧ ∃ cs fr, w.heap[i.cb]? = some (.cells cs ty fr) ∧ Unshut fr cs.size ∧ i.sz = cs.size ∧ i.d + vs.length ≤ cs.size ∧ Holds ι vs cs i.d
  | .ro vs => (vs = [] ∨ i.cb < w0.heap.size) ∧ i.ro = true ∧ ∀ (j : Nat) (x : Value), vs[j]? = some x → x.oneCell' = true ∧ ∃ y, w0.cell? ⟨i.cb, i.d + j, none⟩ = some y ∧ RelV ι x y
  | .map es => w0.heap.size ≤ i.cb ∧ ∃ (ents : Array MapEntry) (clock : Nat), w.heap[i.cb]? = some (.map ents clock) ∧ RelL ι (es.map (·.1)) (ents.toList.map (·.key)) ∧ RelL ι (es.map (·.2)) (ents.toList.map (·.val))
  | .iter s pos => w0.heap.size ≤ i.cb ∧ i.d = 0 ∧ w.heap[i.cb]? = some (.stringIter s pos)
  | .dead => True

structure RelH (P : Program) (w0 : World) (ι : Inj) (H : AHeap) (w : World) : Prop where
  old : Below w0.heap.size w0 w
  dom : ∀ b i, ι b = some i → b < H.n
  obj : ∀ b i, ι b = some i → ObjRel P w0 ι i w (H.get b)
  inj : ∀ b b' i i', ι b = some i → ι b' = some i' → (H.get b).own = true → (H.get b').own = true → i.cb = i'.cb → b = b'

/-- What is not the object's own stays; what is new is new, or a dead object's. -/
structure Frame (ι : Inj) (H : AHeap) (w : World) (ι' : Inj) (H' : AHeap) (w' : World) : Prop where
  le : ι.le ι'
  grow : H.n ≤ H'.n
  alive : ∀ b, b < H.n → (H'.get b).own = true → (H.get b).own = true
  size : w.heap.size ≤ w'.heap.size
  keep : ∀ cb, cb < w.heap.size → (∀ b i, ι b = some i → (H.get b).own = true → i.cb ≠ cb) → w'.heap[cb]? = w.heap[cb]?
  new : ∀ b i', ι b = none → ι' b = some i' → H.n ≤ b ∧ ((H'.get b).own = true → w.heap.size ≤ i'.cb ∨ ∃ c i, ι c = some i ∧ (H.get c).own = true ∧ i.cb = i'.cb)

theorem Frame.refl (ι : Inj) (H : AHeap) (w : World) : Frame ι H w ι H w :=
  ⟨Inj.le_refl _, Nat.le_refl _, fun _ _ h => h, Nat.le_refl _, fun _ _ _ => rfl, fun b i h h' => by rw [h] at h'; cases h'⟩

end Go.AB
