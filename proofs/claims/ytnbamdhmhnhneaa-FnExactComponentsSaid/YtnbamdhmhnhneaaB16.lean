/- Own framework, part 16: slices; operations on values that are known in part. -/
import Derived.Test.YtnbamdhmhnhneaaB15
import Derived.IntWalk
set_option linter.unusedVariables false
set_option linter.unusedSimpArgs false
namespace Go.AB
open Go.RowKit Go.IntWalk

/-- A slice. -/
inductive SV where
  | nil
  | at (b o n : Nat)
def SV.v : SV → Value
  | .nil => .slice none 0 0
  | .at b o n => .slice (some ⟨b, o, none⟩) n n
def SV.len : SV → Nat
  | .nil => 0
  | .at _ _ n => n
def SV.p (s : SV) (j : Nat) : Value := match s with
  | .nil => .pointer none
  | .at b o _ => .pointer (some ⟨b, o + j, none⟩)
/-- Not in this block. -/
def SV.off (s : SV) (c : Nat) : Prop := match s with
  | .nil => True
  | .at b _ _ => b ≠ c
/-- In blocks that there are. -/
def SV.lt (s : SV) (n : Nat) : Prop := match s with
  | .nil => True
  | .at b _ _ => b < n
def SV.cut (s : SV) (sz l h : Nat) : SV := match s with
  | .nil => .nil
  | .at b o _ => .at b (o + l * sz) (h - l)
abbrev pt (b off : Nat) : Value := .pointer (some ⟨b, off, none⟩)
abbrev iv (n : Int) : Value := .int .i64 n

structure Arr (H : AHeap) (s : SV) (ty : TypeId) (sz : Nat) (cs : List Value) : Prop where
  len : cs.length = s.len * sz
  row : ∀ b o n, s = .at b o n → ∃ pre post, (H.get b = .cells (pre ++ (cs ++ post)) ty ∨ H.get b = .ro (pre ++ (cs ++ post))) ∧ pre.length = o
/-- Its own: it may be written. -/
structure Own (H : AHeap) (s : SV) (ty : TypeId) (sz : Nat) (cs : List Value) : Prop where
  len : cs.length = s.len * sz
  row : ∀ b o n, s = .at b o n → ∃ pre post, H.get b = .cells (pre ++ (cs ++ post)) ty ∧ pre.length = o

variable {H H' : AHeap} {s t : SV} {ty : TypeId} {sz : Nat} {cs ds : List Value} {P : Program} {w0 : World} {e : Env} {ρ : AOpd → Option Value}

theorem Own.arr (h : Own H s ty sz cs) : Arr H s ty sz cs := ⟨h.len, fun b o n hs => let ⟨pre, post, h1, h2⟩ := h.row b o n hs; ⟨pre, post, .inl h1, h2⟩⟩
theorem Arr.nil : Arr H .nil ty sz [] := ⟨by simp [SV.len], fun b o n h => by cases h⟩
theorem Own.nil : Own H .nil ty sz [] := ⟨by simp [SV.len], fun b o n h => by cases h⟩
theorem Arr.lt (h : Arr H s ty sz cs) : s.lt H.n := by
  cases s with
  | nil => trivial
  | «at» b o n =>
    obtain ⟨pre, post, h1, _⟩ := h.row b o n rfl
    rcases h1 with h1 | h1 <;> exact AHeap.lt_of h1 (by simp)
theorem Own.lt (h : Own H s ty sz cs) : s.lt H.n := h.arr.lt

/-- What stands where it stood. -/
theorem Arr.keep (h : Arr H s ty sz cs) (hg : ∀ b, ¬ s.off b → H'.get b = H.get b) : Arr H' s ty sz cs :=
  ⟨h.len, fun b o n hs => let ⟨pre, post, h1, h2⟩ := h.row b o n hs; ⟨pre, post, by rw [hg b (by subst hs; simp [SV.off])]; exact h1, h2⟩⟩
theorem Own.keep (h : Own H s ty sz cs) (hg : ∀ b, ¬ s.off b → H'.get b = H.get b) : Own H' s ty sz cs :=
  ⟨h.len, fun b o n hs => let ⟨pre, post, h1, h2⟩ := h.row b o n hs; ⟨pre, post, by rw [hg b (by subst hs; simp [SV.off])]; exact h1, h2⟩⟩

/-! ### The operations, by their operands' values -/
def lenO (v : Option Value) (H : AHeap) : Option (Value × AHeap) := match v with
  | some (.slice _ n _) => some (.int .i64 n, H)
  | _ => none
theorem aop_len {x : AOpd} : aop (.len x) ρ H = lenO (ρ x) H := rfl
theorem lenO_s : lenO (some s.v) H = some (.int .i64 s.len, H) := by cases s <;> rfl
def iaO (sz : Nat) (x i : Option Value) (H : AHeap) : Option (Value × AHeap) := match x, i with
  | some (.slice (some a) len _), some (.int _ n) => if 0 ≤ n ∧ n < (len : Int) then some (.pointer (some ⟨a.block, a.off + n.toNat * sz, none⟩), H) else none
  | _, _ => none
theorem aop_ia {x i : AOpd} : aop (.ia sz x i) ρ H = iaO sz (ρ x) (ρ i) H := rfl
theorem iaO_s {k : IntKind} {n : Int} (h : 0 ≤ n ∧ n < (s.len : Int)) : iaO sz (some s.v) (some (.int k n)) H = some (s.p (n.toNat * sz), H) := by
  cases s with
  | nil => simp [SV.len] at h; omega
  | «at» b o m => simp only [SV.len] at h; simp only [SV.v, iaO, if_pos h, SV.p]
theorem iaO_n {k : IntKind} {n : Nat} (h : n < s.len) : iaO sz (some s.v) (some (.int k (n : Int))) H = some (s.p (n * sz), H) := by
  rw [iaO_s (by omega)]; simp
def ldO (H : AHeap) : Option Value → Option (Value × AHeap)
  | some (.pointer (some a)) => match cellsAt H a.block with
      | some vs => match vs[a.off]? with
        | some v => some (v, H)
        | none => none
      | none => none
  | _ => none
theorem aop_ld {x : AOpd} : aop (.ld x) ρ H = ldO H (ρ x) := rfl
theorem ldO_pt {b off : Nat} {vs : List Value} {ty : TypeId} {v : Value} (h : H.get b = .cells vs ty) (hv : vs[off]? = some v) : ldO H (some (pt b off)) = some (v, H) := by
  simp only [ldO, cellsAt, h, hv]
theorem Arr.ld (h : Arr H s ty sz cs) {j : Nat} (hj : j < cs.length) : ldO H (some (s.p j)) = some (cs.getD j undef, H) := by
  cases s with
  | nil => have := h.len; simp [SV.len] at this; subst this; simp at hj
  | «at» b o n =>
    obtain ⟨pre, post, h1, h2⟩ := h.row b o n rfl
    have hc : cellsAt H b = some (pre ++ (cs ++ post)) := by
      rcases h1 with h1 | h1 <;> simp [cellsAt, h1]
    simp only [SV.p, ldO, hc]
    rw [← h2, List.getElem?_append_right (by omega), Nat.add_sub_cancel_left, List.getElem?_append_left hj]
    simp [hj]
def ldnO (n : Nat) (H : AHeap) : Option Value → Option (Value × AHeap)
  | some (.pointer (some a)) => match cellsAt H a.block with
      | some vs => match seg vs a.off n with
        | some ws => some (.agg ws.toArray, H)
        | none => none
      | none => none
  | _ => none
theorem aop_ldn {n : Nat} {x : AOpd} : aop (.ldn n x) ρ H = ldnO n H (ρ x) := rfl
theorem ldnO_pt {n b off : Nat} {vs : List Value} {ty : TypeId} (h : H.get b = .cells vs ty) (hv : off + n ≤ vs.length) : ldnO n H (some (pt b off)) = some (.agg ((vs.drop off).take n).toArray, H) := by
  simp only [ldnO, cellsAt, h, seg, if_pos hv]
theorem Arr.ldn (h : Arr H s ty sz cs) {j n : Nat} (hj : j + n ≤ cs.length) (hn : 0 < n) : ldnO n H (some (s.p j)) = some (.agg ((cs.drop j).take n).toArray, H) := by
  cases s with
  | nil => have := h.len; simp [SV.len] at this; subst this; simp at hj; omega
  | «at» b o m =>
    obtain ⟨pre, post, h1, h2⟩ := h.row b o m rfl
    have hc : cellsAt H b = some (pre ++ (cs ++ post)) := by
      rcases h1 with h1 | h1 <;> simp [cellsAt, h1]
    simp only [SV.p, ldnO, hc, seg]
    rw [if_pos (by simp; omega), ← h2]
    congr 3
    rw [List.drop_append, Nat.add_sub_cancel_left, List.drop_eq_nil_of_le (by omega), List.nil_append, List.drop_append_of_le_length (by omega), List.take_append_of_le_length (by simp; omega)]

def faO (off : Nat) (x : Option Value) (H : AHeap) : Option (Value × AHeap) := match x with
  | some (.pointer (some a)) => some (.pointer (some ⟨a.block, a.off + off, none⟩), H)
  | _ => none
theorem aop_fa {off : Nat} {x : AOpd} : aop (.fa off x) ρ H = faO off (ρ x) H := rfl
theorem faO_pt {b o off : Nat} : faO off (some (pt b o)) H = some (pt b (o + off), H) := rfl
theorem faO_p {off j : Nat} (h : 0 < s.len) : faO off (some (s.p j)) H = some (s.p (j + off), H) := by
  cases s with
  | nil => simp [SV.len] at h
  | «at» b o n => simp only [SV.p, faO, Nat.add_assoc]

def cellsL (v : Value) : List Value := v.cells.toList
theorem cellsL_int {k : IntKind} {n : Int} : cellsL (.int k n) = [.int k n] := rfl
theorem cellsL_bool {b : Bool} : cellsL (.bool b) = [.bool b] := rfl
theorem cellsL_string {b : ByteArray} : cellsL (.string b) = [.string b] := rfl
theorem cellsL_ptr {a : Option Addr} : cellsL (.pointer a) = [.pointer a] := rfl
theorem cellsL_s : cellsL s.v = [s.v] := by cases s <;> rfl
theorem cellsL_p {j : Nat} : cellsL (s.p j) = [s.p j] := by cases s <;> rfl
theorem cellsL_agg {vs : List Value} : cellsL (.agg vs.toArray) = vs := by simp [cellsL, Value.cells]
theorem cellsL_agg' {vs : Array Value} : cellsL (.agg vs) = vs.toList := by simp [cellsL, Value.cells]
theorem cellsL_func {f : Fn} {a b : Array Value} : cellsL (.func f a b) = [.func f a b] := rfl
theorem cellsL_nilFunc : cellsL .nilFunc = [.nilFunc] := rfl
theorem cellsL_nilIface : cellsL .nilIface = [.nilIface] := rfl
theorem cellsL_map {a : Option Nat} : cellsL (.map a) = [.map a] := rfl
theorem cellsL_iface {t : TypeId} {v : Value} : cellsL (.iface t v) = [.iface t v] := rfl
theorem isTup_s : isTup s.v = false := by cases s <;> rfl
theorem isTup_p {j : Nat} : isTup (s.p j) = false := by cases s <;> rfl

/-- What a store leaves. -/
def AHeap.put (H : AHeap) (b off : Nat) (vs : List Value) : AHeap := match H.get b with
  | .cells us ty => H.set b (.cells (splice us off vs) ty)
  | _ => H
theorem AHeap.put_n {b off : Nat} {vs : List Value} : (H.put b off vs).n = H.n := by unfold AHeap.put; split <;> rfl
theorem AHeap.put_ne {b off c : Nat} {vs : List Value} (h : c ≠ b) : (H.put b off vs).get c = H.get c := by
  unfold AHeap.put; split
  · exact AHeap.set_ne H _ h
  · rfl
theorem AHeap.put_self {b off : Nat} {vs us : List Value} {ty : TypeId} (h : H.get b = .cells us ty) : (H.put b off vs).get b = .cells (splice us off vs) ty := by
  unfold AHeap.put; rw [h]; exact AHeap.set_self (by rw [h]; simp)
def SV.put (H : AHeap) (s : SV) (j : Nat) (vs : List Value) : AHeap := match s with
  | .nil => H
  | .at b o _ => H.put b (o + j) vs
def stO (n : Nat) (H : AHeap) : Option Value → Option Value → Option (Value × AHeap)
  | some (.pointer (some a)), some v => match H.get a.block with
      | .cells vs ty => if isTup v = false ∧ v.cells.toList.length = n ∧ a.off + n ≤ vs.length then some (.tuple #[], H.set a.block (.cells (splice vs a.off v.cells.toList) ty)) else none
      | _ => none
  | _, _ => none
theorem aop_st {n : Nat} {x y : AOpd} : aop (.st n x y) ρ H = stO n H (ρ x) (ρ y) := rfl
theorem stO_pt {n b off : Nat} {vs : List Value} {ty : TypeId} {v : Value} (h : H.get b = .cells vs ty) (ht : isTup v = false) (hc : (cellsL v).length = n) (hl : off + n ≤ vs.length) : stO n H (some (pt b off)) (some v) = some (.tuple #[], H.put b off (cellsL v)) := by
  simp only [stO, h, AHeap.put]
  rw [if_pos ⟨ht, hc, hl⟩]; rfl
theorem Own.st (h : Own H s ty sz cs) {n j : Nat} {v : Value} (ht : isTup v = false) (hc : (cellsL v).length = n) (hn : 0 < n) (hl : j + n ≤ cs.length) : stO n H (some (s.p j)) (some v) = some (.tuple #[], s.put H j (cellsL v)) := by
  cases s with
  | nil => have := h.len; simp [SV.len] at this; subst this; simp at hl; omega
  | «at» b o m =>
    obtain ⟨pre, post, h1, h2⟩ := h.row b o m rfl
    exact stO_pt h1 ht hc (by simp; omega)
theorem splice_length {us vs : List Value} {j : Nat} (h : j + vs.length ≤ us.length) : (splice us j vs).length = us.length := by simp [splice]; omega
theorem SV.put_n {j : Nat} {vs : List Value} : (s.put H j vs).n = H.n := by cases s <;> simp [SV.put, AHeap.put_n]
theorem SV.put_ne {j c : Nat} {vs : List Value} (h : s.off c) : (s.put H j vs).get c = H.get c := by
  cases s with
  | nil => rfl
  | «at» b o n => exact AHeap.put_ne (fun he => h he.symm)
theorem Own.put (h : Own H s ty sz cs) {j : Nat} {vs : List Value} (hl : j + vs.length ≤ cs.length) : Own (s.put H j vs) s ty sz (splice cs j vs) := by
  cases s with
  | nil =>
    have := h.len; simp [SV.len] at this; subst this
    refine ⟨?_, fun b o n h => by cases h⟩
    simp at hl; simp [SV.len, splice, hl.2]
  | «at» b o m =>
    obtain ⟨pre, post, h1, h2⟩ := h.row b o m rfl
    refine ⟨by rw [splice_length hl]; exact h.len, fun b' o' n' he => ?_⟩
    cases he
    refine ⟨pre, post, ?_, h2⟩
    rw [SV.put, AHeap.put_self h1]
    congr 1
    unfold splice
    subst h2
    rw [List.take_append, List.drop_append, List.take_of_length_le (l := pre) (by omega), List.drop_eq_nil_of_le (as := pre) (by omega)]
    simp only [Nat.add_sub_cancel_left, Nat.add_assoc, List.nil_append]
    rw [List.take_append_of_le_length (by omega), List.drop_append_of_le_length (by omega)]
    simp [List.append_assoc]
theorem splice_one {cs : List Value} {j : Nat} {v : Value} (h : j < cs.length) : splice cs j [v] = cs.set j v := by
  unfold splice
  rw [List.set_eq_take_append_cons_drop, if_pos h]; simp

def slcO (ty : TypeId) (sz : Nat) (x : Option Value) (lo hi : Option (Option Value)) (H : AHeap) : Option (Value × AHeap) := match x, lo, hi with
  | some v, some l, some h => match sliceV H ty sz v l h with
      | some u => some (u, H)
      | none => none
  | _, _, _ => none
theorem aop_slc {x : AOpd} {lo hi : Option AOpd} : aop (.slc ty sz x lo hi) ρ H = slcO ty sz (ρ x) (evo ρ lo) (evo ρ hi) H := rfl
theorem Arr.rowOk {b o n : Nat} (h : Arr H (.at b o n) ty sz cs) : rowOk H ty b = true := by
  obtain ⟨pre, post, h1, _⟩ := h.row b o n rfl
  rcases h1 with h1 | h1 <;> simp [AB.rowOk, h1]
theorem Arr.slc (h : Arr H s ty sz cs) {lo hi : Option Value} {l r : Nat} (hc : cutAt s.len lo hi = some (l, r)) : slcO ty sz (some s.v) (some lo) (some hi) H = some ((s.cut sz l r).v, H) := by
  cases s with
  | nil => simp only [SV.len] at hc; simp only [slcO, SV.v, sliceV, hc]; rfl
  | «at» b o n =>
    simp only [SV.len] at hc
    have hr : AB.rowOk H ty b = true := h.rowOk
    simp only [slcO, SV.v, sliceV, hc, hr, if_true, SV.cut]
theorem cut_none {n : Nat} : cutAt n none none = some (0, n) := rfl
theorem cut_lo {n l : Nat} {k : IntKind} (h : l ≤ n) : cutAt n (some (.int k (l : Int))) none = some (l, n) := by simp [cutAt]; omega
theorem cut_hi {n l : Nat} {k : IntKind} (h : l ≤ n) : cutAt n none (some (.int k (l : Int))) = some (0, l) := by simp [cutAt]; omega
theorem cut_lh {n l r : Nat} {k k' : IntKind} (h : l ≤ r) (h2 : r ≤ n) : cutAt n (some (.int k (l : Int))) (some (.int k' (r : Int))) = some (l, r) := by simp [cutAt]; omega
theorem SV.cut_len {l r : Nat} (h : s.len = 0 → r = 0) : (s.cut sz l r).len = r - l := by
  cases s with
  | nil => have := h rfl; subst this; simp [SV.cut, SV.len]
  | «at» b o n => rfl
theorem SV.cut_off {l r c : Nat} : (s.cut sz l r).off c ↔ s.off c := by cases s <;> rfl
theorem Arr.cut (h : Arr H s ty sz cs) {l r : Nat} (hl : l ≤ r) (hr : r ≤ s.len) : Arr H (s.cut sz l r) ty sz ((cs.drop (l * sz)).take ((r - l) * sz)) := by
  have hlen := h.len
  have e1 : l * sz + (r - l) * sz = r * sz := by rw [← Nat.add_mul]; congr 1; omega
  have e2 : r * sz ≤ s.len * sz := Nat.mul_le_mul_right _ hr
  refine ⟨?_, fun b o n hs => ?_⟩
  · rw [SV.cut_len (by omega)]
    simp; omega
  · cases s with
    | nil => cases hs
    | «at» b' o' n' =>
      cases hs
      obtain ⟨pre, post, h1, h2⟩ := h.row _ _ _ rfl
      refine ⟨pre ++ cs.take (l * sz), cs.drop (r * sz) ++ post, ?_, by simp [h2]; omega⟩
      have : pre ++ cs.take (l * sz) ++ ((cs.drop (l * sz)).take ((r - l) * sz) ++ (cs.drop (r * sz) ++ post)) = pre ++ (cs ++ post) := by
        rw [List.append_assoc]
        congr 1
        have h3 : cs.drop (r * sz) = (cs.drop (l * sz)).drop ((r - l) * sz) := by rw [List.drop_drop, e1]
        rw [h3, ← List.append_assoc (List.take _ _) (List.drop _ _), List.take_append_drop, ← List.append_assoc, List.take_append_drop]
      rw [this]; exact h1

/-! ### New objects -/
def AHeap.kill (H : AHeap) (s : SV) : AHeap := match s with
  | .nil => H
  | .at b _ _ => H.set b .dead
theorem AHeap.kill_n : (H.kill s).n = H.n := by cases s <;> rfl
theorem AHeap.kill_ne {c : Nat} (h : s.off c) : (H.kill s).get c = H.get c := by
  cases s with
  | nil => rfl
  | «at» b o n => exact AHeap.set_ne H _ (fun he => h he.symm)
theorem Own.new {n : Nat} (h : cs.length = n * sz) : Own (H.alloc (.cells cs ty)) (.at H.n 0 n) ty sz cs :=
  ⟨h, fun b o m he => by cases he; exact ⟨[], [], by rw [AHeap.alloc_self]; simp, rfl⟩⟩
theorem elems_arr (h : Arr H s ty sz cs) : elems H sz s.v = some cs := by
  have hl := h.len
  cases s with
  | nil => simp [SV.len] at hl; subst hl; rfl
  | «at» b o n =>
    obtain ⟨pre, post, h1, h2⟩ := h.row b o n rfl
    have hc : cellsAt H b = some (pre ++ (cs ++ post)) := by
      rcases h1 with h1 | h1 <;> simp [cellsAt, h1]
    simp only [SV.len] at hl
    simp only [SV.v, elems, hc, seg]
    rw [if_pos (by simp; omega)]
    subst h2
    simp [hl]
def appO (ty : TypeId) (sz bytes : Nat) (x y : Option Value) (H : AHeap) : Option (Value × AHeap) := match x, y with
  | some a, some b => appV H ty sz bytes a b
  | _, _ => none
theorem aop_app {bytes : Nat} {x y : AOpd} : aop (.app ty sz bytes x y) ρ H = appO ty sz bytes (ρ x) (ρ y) H := rfl
theorem Own.app (h : Own H s ty sz cs) (k : Arr H t ty sz ds) {bytes : Nat} (ht : 0 < t.len) (hb : (s.len + t.len) * bytes ≤ 2 ^ 46) (hb' : s.len + t.len ≤ 2 ^ 46) :
    appO ty sz bytes (some s.v) (some t.v) H = some ((SV.at H.n 0 (s.len + t.len)).v, (H.kill s).alloc (.cells (cs ++ ds) ty)) := by
  have he := elems_arr k
  have hcl := h.len
  cases t with
  | nil => simp [SV.len] at ht
  | «at» c p m =>
    simp only [SV.len] at ht hb hb'
    cases s with
    | nil =>
      simp only [SV.len, Nat.zero_mul] at hcl hb hb'
      have : cs = [] := List.length_eq_zero_iff.1 hcl
      subst this
      simp only [appO, SV.v, appV] at he ⊢
      simp only [Nat.zero_add] at hb hb'
      simp only [he]
      rw [if_neg (by omega), if_pos ⟨hb, hb'⟩]
      simp [SV.len, AHeap.kill]
    | «at» b o n =>
      simp only [SV.len] at hcl hb hb'
      obtain ⟨pre, post, h1, h2⟩ := h.row b o n rfl
      simp only [appO, SV.v, appV] at he ⊢
      simp only [he, h1]
      subst h2
      rw [if_pos ⟨trivial, by simp; omega, hb, hb'⟩]
      simp [SV.len, AHeap.kill, hcl]

/-- Parts laid into cells. -/
def fillL (place : Nat → Option (Nat × Nat)) (cs : List Value) : List (Nat × Value) → Option (List Value)
  | [] => some cs
  | (i, v) :: rest => match place i with
    | none => none
    | some (off, size) => if (cellsL v).length = size ∧ off + size ≤ cs.length then fillL place (splice cs off (cellsL v)) rest else none
theorem foldl_splice : ∀ (l : List Value) (k off : Nat) (cs : List Value), off + k + l.length ≤ cs.length →
    ((l.zipIdx k).foldl (fun (cs : Array Value) (p : Value × Nat) => cs.setIfInBounds (off + p.2) p.1) cs.toArray) = (splice cs (off + k) l).toArray
  | [], k, off, cs, h => by simp [splice]
  | v :: l, k, off, cs, h => by
    simp only [List.length_cons] at h
    rw [List.zipIdx_cons, List.foldl_cons]
    have e1 : cs.toArray.setIfInBounds (off + k) v = (cs.set (off + k) v).toArray := by simp
    rw [e1, foldl_splice l (k + 1) off _ (by simp; omega)]
    congr 1
    unfold splice
    have e2 : off + (k + 1) = (off + k) + 1 := by omega
    rw [e2, List.set_eq_take_append_cons_drop, if_pos (by omega)]
    have e3 : (List.take (off + k) cs).length = off + k := by simp; omega
    have hl1 : (List.take (off + k + 1) (List.take (off + k) cs ++ v :: List.drop (off + k + 1) cs)) = List.take (off + k) cs ++ [v] := by
      rw [List.take_append, e3, List.take_of_length_le (by omega)]
      simp
    have hl2 : List.drop (off + k + 1 + l.length) (List.take (off + k) cs ++ v :: List.drop (off + k + 1) cs) = List.drop (off + k + (l.length + 1)) cs := by
      rw [List.drop_append, e3, List.drop_eq_nil_of_le (by omega), List.nil_append]
      have : off + k + 1 + l.length - (off + k) = l.length + 1 := by omega
      rw [this, List.drop_succ_cons, List.drop_drop]
      congr 1; omega
    rw [hl1, hl2]
    simp
theorem fill_fillL (place : Nat → Option (Nat × Nat)) : ∀ (ps : List (Nat × Value)) (cs : List Value), Instr.fill place cs.toArray ps = (fillL place cs ps).map List.toArray
  | [], cs => rfl
  | (i, v) :: rest, cs => by
    simp only [Instr.fill, fillL]
    cases hp : place i with
    | none => rfl
    | some p =>
      obtain ⟨off, size⟩ := p
      by_cases h : (cellsL v).length = size ∧ off + size ≤ cs.length
      · have h' : v.cells.size = size := by simpa [cellsL] using h.1
        simp only [if_pos h]
        rw [if_neg (by simp [h']; exact h.2)]
        rw [← Array.foldl_toList]
        have : v.cells.zipIdx.toList = v.cells.toList.zipIdx := by simp
        rw [this]
        show Instr.fill place ((cellsL v).zipIdx.foldl (fun (cs : Array Value) (p : Value × Nat) => cs.setIfInBounds (off + p.2) p.1) cs.toArray) rest = _
        have hfs := foldl_splice (cellsL v) 0 off cs (by simp only [cellsL, Array.length_toList]; omega)
        simp only [Nat.add_zero] at hfs
        rw [hfs]
        exact fill_fillL place rest _
      · simp only [if_neg h]
        rw [if_pos]
        · rfl
        · simp only [cellsL, Array.length_toList] at h
          simp
          by_cases h1 : v.cells.size = size
          · right; have : ¬ off + size ≤ cs.length := fun h2 => h ⟨h1, h2⟩
            omega
          · left; exact h1
def buildO (zs : List Value) (places : List (Nat × Nat)) (ps : Option (List (Nat × Value))) (H : AHeap) : Option (Value × AHeap) := match ps with
  | some ps => if ps.any (fun p => isTup p.2) then none else (match fillL (fun i => places[i]?) zs ps with
      | some c => some (.agg c.toArray, H)
      | none => none)
  | none => none
theorem aop_build {zs : List Value} {places : List (Nat × Nat)} {parts : List (Nat × AOpd)} : aop (.build zs places parts) ρ H = buildO zs places (evp ρ parts) H := by
  simp only [aop, buildO, fill_fillL]
  cases evp ρ parts with
  | none => rfl
  | some ps =>
    simp only []
    split
    · rfl
    · cases fillL (fun i => places[i]?) zs ps <;> rfl
def mkslO (ty : TypeId) (sz len : Nat) (zs : List Value) (ps : Option (List (Nat × Value))) (H : AHeap) : Option (Value × AHeap) := match ps with
  | some ps => if ps.any (fun p => isTup p.2) then none else (match fillL (fun i => some (i * sz, sz)) zs ps with
      | some c => some ((SV.at H.n 0 len).v, H.alloc (.cells c ty))
      | none => none)
  | none => none
theorem aop_mksl {len : Nat} {zs : List Value} {parts : List (Nat × AOpd)} : aop (.mksl ty sz len zs parts) ρ H = mkslO ty sz len zs (evp ρ parts) H := by
  simp only [aop, mkslO, fill_fillL]
  cases evp ρ parts with
  | none => rfl
  | some ps =>
    simp only []
    split
    · rfl
    · cases fillL (fun i => some (i * sz, sz)) zs ps <;> rfl
/-- A slice literal of one element. -/
theorem mkslO_one {zs : List Value} {v : Value} (ht : isTup v = false) (hc : (cellsL v).length = sz) (hz : zs.length = sz) : mkslO ty sz 1 zs (some [(0, v)]) H = some ((SV.at H.n 0 1).v, H.alloc (.cells (cellsL v) ty)) := by
  simp only [mkslO, List.any_cons, ht, List.any_nil, Bool.or_self, Bool.false_eq_true, if_false, fillL, Nat.zero_mul, Nat.zero_add]
  rw [if_pos ⟨hc, by omega⟩]
  simp only [splice, List.take_zero, List.nil_append, Nat.zero_add]
  rw [List.drop_eq_nil_of_le (by omega), List.append_nil]
def mksO (ty : TypeId) (zs : List Value) (bytes : Nat) (l c : Option Value) (H : AHeap) : Option (Value × AHeap) := match l, c with
  | some (.int _ n), some (.int _ m) =>
      if n = m ∧ 0 ≤ n ∧ n * bytes ≤ 2 ^ 46 ∧ n ≤ 2 ^ 46 then some ((SV.at H.n 0 n.toNat).v, H.alloc (.cells (List.replicate n.toNat zs).flatten ty)) else none
  | _, _ => none
theorem aop_mks {zs : List Value} {bytes : Nat} {l c : AOpd} : aop (.mks ty zs bytes l c) ρ H = mksO ty zs bytes (ρ l) (ρ c) H := rfl
theorem mksO_n {zs : List Value} {bytes : Nat} {k k' : IntKind} {n : Nat} (h : n * bytes ≤ 2 ^ 46) (h' : n ≤ 2 ^ 46) : mksO ty zs bytes (some (.int k (n : Int))) (some (.int k' (n : Int))) H = some ((SV.at H.n 0 n).v, H.alloc (.cells (List.replicate n zs).flatten ty)) := by
  simp only [mksO]
  rw [if_pos ⟨trivial, by omega, by omega, by omega⟩]; simp
def boxO (ty : TypeId) (H : AHeap) : Option Value → Option (Value × AHeap)
  | some v => if isTup v then none else some (pt H.n 0, H.alloc (.cells (cellsL v) ty))
  | none => none
theorem aop_box {x : AOpd} : aop (.box ty x) ρ H = boxO ty H (ρ x) := rfl
theorem boxO_v {v : Value} (h : isTup v = false) : boxO ty H (some v) = some (pt H.n 0, H.alloc (.cells (cellsL v) ty)) := by simp [boxO, h]
theorem aop_alloc {zs : List Value} : aop (.alloc ty zs) ρ H = some (pt H.n 0, H.alloc (.cells zs ty)) := rfl
def mvO (H : AHeap) : Option Value → Option (Value × AHeap)
  | some v => some (v, H)
  | none => none
theorem aop_mv {x : AOpd} : aop (.mv x) ρ H = mvO H (ρ x) := rfl
theorem mvO_v {v : Value} : mvO H (some v) = some (v, H) := rfl
def binO (op : BinOp) (H : AHeap) : Option Value → Option Value → Option (Value × AHeap)
  | some a, some b => (abin op a b).map (·, H)
  | _, _ => none
theorem aop_bin {op : BinOp} {x y : AOpd} : aop (.bin op x y) ρ H = binO op H (ρ x) (ρ y) := by
  simp only [aop, binO]
  cases ρ x with
  | none => rfl
  | some a => cases ρ y with
    | none => rfl
    | some b => simp only []; cases abin op a b <;> rfl
theorem binO_v {op : BinOp} {a b v : Value} (h : abin op a b = some v) : binO op H (some a) (some b) = some (v, H) := by simp [binO, h]
theorem bin_add {a b : Int} (h : -9223372036854775808 ≤ a + b ∧ a + b ≤ 9223372036854775807) : binO .add H (some (.int .i64 a)) (some (.int .i64 b)) = some (.int .i64 (a + b), H) := by simp [binO, abin, i64_in _ h]
theorem bin_sub {a b : Int} (h : -9223372036854775808 ≤ a - b ∧ a - b ≤ 9223372036854775807) : binO .sub H (some (.int .i64 a)) (some (.int .i64 b)) = some (.int .i64 (a - b), H) := by simp [binO, abin, i64_in _ h]
theorem bin_mul {a b : Int} (h : -9223372036854775808 ≤ a * b ∧ a * b ≤ 9223372036854775807) : binO .mul H (some (.int .i64 a)) (some (.int .i64 b)) = some (.int .i64 (a * b), H) := by simp [binO, abin, i64_in _ h]
theorem bin_quo {a b : Int} (h : 0 ≤ a ∧ a ≤ 9223372036854775807 ∧ 1 ≤ b) : binO .quo H (some (.int .i64 a)) (some (.int .i64 b)) = some (.int .i64 (a / b), H) := by
  simp only [binO, abin]
  simp only [if_true]
  rw [if_neg (by omega), i64_quo a b h]; rfl
theorem bin_rem {a b : Int} (h : 0 ≤ a ∧ 1 ≤ b) : binO .rem H (some (.int .i64 a)) (some (.int .i64 b)) = some (.int .i64 (a % b), H) := by
  simp only [binO, abin]
  simp only [if_true]
  rw [if_neg (by omega), Int.tmod_eq_emod_of_nonneg h.1]; rfl
variable {k : IntKind} {a b : Int}
theorem bin_eql : binO .eql H (some (.int k a)) (some (.int k b)) = some (.bool (a == b), H) := by simp [binO, abin]
theorem bin_neq : binO .neq H (some (.int k a)) (some (.int k b)) = some (.bool (a != b), H) := by simp [binO, abin]
theorem bin_lss : binO .lss H (some (.int k a)) (some (.int k b)) = some (.bool (decide (a < b)), H) := by simp [binO, abin]
theorem bin_leq : binO .leq H (some (.int k a)) (some (.int k b)) = some (.bool (decide (a ≤ b)), H) := by simp [binO, abin]
theorem bin_gtr : binO .gtr H (some (.int k a)) (some (.int k b)) = some (.bool (decide (b < a)), H) := by simp [binO, abin]
theorem bin_geq : binO .geq H (some (.int k a)) (some (.int k b)) = some (.bool (decide (b ≤ a)), H) := by simp [binO, abin]
def unO (op : UnOp) (H : AHeap) : Option Value → Option (Value × AHeap)
  | some a => (aun op a).map (·, H)
  | none => none
theorem aop_un {op : UnOp} {x : AOpd} : aop (.un op x) ρ H = unO op H (ρ x) := by
  simp only [aop, unO]
  cases ρ x with
  | none => rfl
  | some a => simp only []; cases aun op a <;> rfl
theorem un_not {b : Bool} : unO .not H (some (.bool b)) = some (.bool (!b), H) := rfl
theorem un_neg (h : -9223372036854775807 ≤ a ∧ a ≤ 9223372036854775807) : unO .neg H (some (.int .i64 a)) = some (.int .i64 (0 - a), H) := by
  simp [unO, aun]; exact i64_in _ (by omega)
def cviO (k : IntKind) (H : AHeap) : Option Value → Option (Value × AHeap)
  | some (.int _ n) => some (.int k (k.wrap n), H)
  | _ => none
theorem aop_cvi {x : AOpd} : aop (.cvi k x) ρ H = cviO k H (ρ x) := rfl
theorem cvi_i64 {k' : IntKind} (h : -9223372036854775808 ≤ a ∧ a ≤ 9223372036854775807) : cviO .i64 H (some (.int k' a)) = some (.int .i64 a, H) := by simp [cviO, i64_in _ h]
def extO (k : Nat) (H : AHeap) : Option Value → Option (Value × AHeap)
  | some (.tuple vs) => match vs[k]? with
      | some v => some (v, H)
      | none => none
  | _ => none
theorem aop_ext {k : Nat} {x : AOpd} : aop (.ext k x) ρ H = extO k H (ρ x) := rfl
theorem ext_l {k : Nat} {vs : List Value} {v : Value} (h : vs[k]? = some v) : extO k H (some (.tuple vs.toArray)) = some (v, H) := by simp [extO, h]
def fldO (off : Nat) (n : Option Nat) (H : AHeap) : Option Value → Option (Value × AHeap)
  | some (.agg cs) => match n with
      | none => match cs[off]? with
        | some v => some (v, H)
        | none => none
      | some n => if off + n ≤ cs.size then some (.agg (cs.extract off (off + n)), H) else none
  | _ => none
theorem aop_fld {off : Nat} {n : Option Nat} {x : AOpd} : aop (.fld off n x) ρ H = fldO off n H (ρ x) := rfl
theorem fld_l {off : Nat} {vs : List Value} {v : Value} (h : vs[off]? = some v) : fldO off none H (some (.agg vs.toArray)) = some (v, H) := by simp [fldO, h]
def pickO (H : AHeap) : Option Value → Option Value → Option Value → Option (Value × AHeap)
  | some (.bool t), some x, some y => some (pickV t x y, H)
  | _, _, _ => none
theorem aop_pick {c x y : AOpd} : aop (.pick c x y) ρ H = pickO H (ρ c) (ρ x) (ρ y) := rfl
theorem pick_bool {t x y : Bool} : pickO H (some (.bool t)) (some (.bool x)) (some (.bool y)) = some (.bool (bif t then x else y), H) := by cases t <;> rfl
theorem pick_tup {t x : Bool} : pickO H (some (.bool t)) (some (.bool x)) (some undef) = some (bif t then .bool x else undef, H) := by cases t <;> rfl
theorem pick_tup' {t x : Bool} : pickO H (some (.bool t)) (some undef) (some (.bool x)) = some (bif t then undef else .bool x, H) := by cases t <;> rfl
theorem put_some {e : Env} {d : Nat} {v : Value} {t : Nat} : (e.put (some d) v) t = if t = d then some v else e t := rfl
theorem put_none {e : Env} {v : Value} : e.put none v = e := rfl
theorem ev_r {rs : List Value} {e : Env} {k : Nat} : ev rs e (.r k) = rs[k]? := rfl
theorem ev_v {rs : List Value} {e : Env} {t : Nat} : ev rs e (.v t) = e t := rfl
theorem ev_k {rs : List Value} {e : Env} {c : Value} : ev rs e (.k c) = some c := rfl
theorem ev_f {rs : List Value} {e : Env} {n : FuncId} : ev rs e (.f n) = some (.func (.func n) #[] #[]) := rfl
theorem evs_nil {ρ : AOpd → Option Value} : evs ρ [] = some [] := rfl
def consO : Option Value → Option (List Value) → Option (List Value)
  | some v, some vs => some (v :: vs)
  | _, _ => none
theorem evs_cons {ρ : AOpd → Option Value} {x : AOpd} {xs : List AOpd} : evs ρ (x :: xs) = consO (ρ x) (evs ρ xs) := by
  rw [evs]; rfl
theorem consO_some {v : Value} {vs : List Value} : consO (some v) (some vs) = some (v :: vs) := rfl
theorem evp_nil {ρ : AOpd → Option Value} : evp ρ [] = some [] := rfl
def conspO (i : Nat) : Option Value → Option (List (Nat × Value)) → Option (List (Nat × Value))
  | some v, some vs => some ((i, v) :: vs)
  | _, _ => none
theorem evp_cons {ρ : AOpd → Option Value} {i : Nat} {x : AOpd} {xs : List (Nat × AOpd)} : evp ρ ((i, x) :: xs) = conspO i (ρ x) (evp ρ xs) := by
  rw [evp]; rfl
theorem conspO_some {i : Nat} {v : Value} {vs : List (Nat × Value)} : conspO i (some v) (some vs) = some ((i, v) :: vs) := rfl
theorem evo_none {ρ : AOpd → Option Value} : evo ρ none = some none := rfl
def somO : Option Value → Option (Option Value)
  | some v => some (some v)
  | none => none
theorem evo_some {ρ : AOpd → Option Value} {x : AOpd} : evo ρ (some x) = somO (ρ x) := rfl
theorem somO_some {v : Value} : somO (some v) = some (some v) := rfl

/-! ### copy -/
def copyO (H : AHeap) (sz : Nat) (x y : Option Value) : Option (Value × AHeap) := match x, y with
  | some a, some b => copyV H sz a b
  | _, _ => none
theorem aop_copy {x y : AOpd} : aop (.copy sz x y) ρ H = copyO H sz (ρ x) (ρ y) := rfl
theorem Own.copy (h : Own H s ty sz cs) (k : Arr H t ty sz ds) : copyO H sz (some s.v) (some t.v) = some (.int .i64 (min t.len s.len : Nat), s.put H 0 (ds.take (min t.len s.len * sz))) := by
  have he := elems_arr k
  have hl := h.len
  cases s with
  | nil =>
    cases t with
    | nil => simp only [copyO, SV.v, copyV] at he ⊢; rw [he]; rfl
    | «at» c p m => simp only [copyO, SV.v, copyV] at he ⊢; rw [he]; simp [SV.len, SV.put]
  | «at» b o n =>
    obtain ⟨pre, post, h1, h2⟩ := h.row b o n rfl
    have hfit : o + min t.len n * sz ≤ (pre ++ (cs ++ post)).length := by
      have : min t.len n * sz ≤ n * sz := Nat.mul_le_mul_right _ (Nat.min_le_right _ _)
      simp only [SV.len] at hl
      simp; omega
    cases t with
    | nil =>
      simp only [SV.len] at hfit
      simp only [copyO, SV.v, copyV] at he ⊢
      simp only [he, h1, SV.len, SV.put, AHeap.put, Nat.add_zero]
      rw [if_pos hfit]
    | «at» c p m =>
      simp only [SV.len] at hfit
      simp only [copyO, SV.v, copyV] at he ⊢
      simp only [he, h1, SV.len, SV.put, AHeap.put, Nat.add_zero]
      rw [if_pos hfit]
end Go.AB
