/- Own framework, part 8: the code: what is to be shown of it, and that this suffices. -/
import Derived.Test.YtnbamdhmhnhneaaBC
set_option linter.unusedVariables false
set_option linter.unusedSimpArgs false
namespace Go.AB
open Go.RowKit

/-- An operation of a region: the variable that it writes, if it is one; whether it is done at all; what it does. -/
structure AOper where
  dst : Option Nat
  guard : Option (Nat × Bool)
  op : AOp

inductive AC where
  | skip
  | ops (l : List AOper)
  | draw (l : List AOper) (cf : List (Nat × Nat))
  | seq (a b : AC)
  | cond (c : AOpd) (a b : AC)
  | block (id : Nat) (a : AC)
  | loop (a : AC)
  | exit (id : Nat)
  | ret

inductive AX where
  | normal
  | exit (id : Nat)
  | ret

/-- A call of function f with these arguments, out of this heap, returns, and then Q. -/
def CallS (P : Program) (w0 : World) (f : FuncId) (args : List Value) (H : AHeap) (Q : Value → AHeap → Prop) : Prop :=
  ∀ (ι : Inj) (w : World) (cargs : List Value), RelH P w0 ι H w → RelL ι args cargs → Calls P f cargs.toArray w fun ed w' =>
    ∃ ι' v v' H', ed = .returned v' ∧ RelH P w0 ι' H' w' ∧ RelV ι' v v' ∧ Frame ι H w ι' H' w' ∧ Q v H'

theorem CallS.mono {P : Program} {w0 : World} {f : FuncId} {args : List Value} {H : AHeap} {Q Q' : Value → AHeap → Prop} (h : CallS P w0 f args H Q) (hq : ∀ v H', Q v H' → Q' v H') : CallS P w0 f args H Q' :=
  fun ι w cargs hH hr => (h ι w cargs hH hr).mono fun _ _ ⟨ι', v, v', H', h1, h2, h3, h4, h5⟩ => ⟨ι', v, v', H', h1, h2, h3, h4, hq _ _ h5⟩

/-- A call that comes to one answer and one heap. -/
def Rets (P : Program) (w0 : World) (f : FuncId) (args : List Value) (H : AHeap) (Φ : Value → AHeap → Prop) : Prop :=
  ∃ v H', CallS P w0 f args H (fun u G => u = v ∧ G = H') ∧ H.n ≤ H'.n ∧ Φ v H'

def gd (rs : List Value) : Option (Nat × Bool) → Option Bool
  | none => some true
  | some (k, want) => match rs[k]? with
    | some (.bool b) => some (b == want)
    | some (.tuple _) => some false
    | _ => none

def Env.put (e : Env) (d : Option Nat) (v : Value) : Env :=
  match d with
  | some d => fun t => if t = d then some v else e t
  | none => e

/-- A function value's call: the function, and what comes ahead of and behind the arguments. -/
def target : Value → Option (FuncId × List Value × List Value)
  | .func (.func f) fs cs => some (f, fs.toList, cs.toList)
  | _ => none

def callable (P : Program) (f : FuncId) : Bool :=
  match P.funcs[f]? with
  | some fn => fn.body.isSome && !(fn.name == "runtime.NumGoroutine")
  | none => false

def opsW (P : Program) (w0 : World) : List AOper → List Value → Env → AHeap → (Env → AHeap → Prop) → Prop
  | [], _, e, H, K => K e H
  | o :: l, rs, e, H, K =>
    match gd rs o.guard with
    | some false => opsW P w0 l (undef :: rs) (e.put o.dst undef) H K
    | some true => match o.op with
      | .call f xs => match evs (ev rs e) xs with
        | some vs => Rets P w0 f vs H fun v H' => opsW P w0 l (v :: rs) (e.put o.dst v) H' K
        | none => False
      | .callv x xs => match ev rs e x, evs (ev rs e) xs with
        | some t, some vs => match target t with
          | some (f, fs, cs) => callable P f = true ∧ Rets P w0 f (fs ++ vs ++ cs) H fun v H' => opsW P w0 l (v :: rs) (e.put o.dst v) H' K
          | none => False
        | _, _ => False
      | q => match aop q (ev rs e) H with
        | some (v, H') => opsW P w0 l (v :: rs) (e.put o.dst v) H' K
        | none => False
    | none => False

/-- Of a region whose operations may come up in several orders: what each has met. -/
structure Rec where
  t : Option Nat
  b : AHeap
  a : AHeap
/-- Where a reading (or a new object) and a turning of the heap may come up in either order, they don't meet. -/
def condsD (cf : List (Nat × Nat)) (tr : List Rec) : Prop :=
  ∀ p ∈ cf, match tr[tr.length - 1 - p.1]?, tr[tr.length - 1 - p.2]? with
    | some i, some j => (match i.t with
      | some b => j.a.get b = j.b.get b
      | none => True)
    | _, _ => False
def opsD (P : Program) (w0 : World) (cf : List (Nat × Nat)) : List AOper → List Value → Env → AHeap → List Rec → (Env → AHeap → Prop) → Prop
  | [], _, e, H, tr, K => condsD cf tr ∧ K e H
  | o :: l, rs, e, H, tr, K =>
    match gd rs o.guard with
    | some false => opsD P w0 cf l (undef :: rs) (e.put o.dst undef) H (⟨none, H, H⟩ :: tr) K
    | some true => match o.op with
      | .call f xs => match evs (ev rs e) xs with
        | some vs => Rets P w0 f vs H fun v H' => opsD P w0 cf l (v :: rs) (e.put o.dst v) H' (⟨none, H, H'⟩ :: tr) K
        | none => False
      | .callv x xs => match ev rs e x, evs (ev rs e) xs with
        | some t, some vs => match target t with
          | some (f, fs, cs) => callable P f = true ∧ Rets P w0 f (fs ++ vs ++ cs) H fun v H' => opsD P w0 cf l (v :: rs) (e.put o.dst v) H' (⟨none, H, H'⟩ :: tr) K
          | none => False
        | _, _ => False
      | q => match aop q (ev rs e) H with
        | some (v, H') => opsD P w0 cf l (v :: rs) (e.put o.dst v) H' (⟨touch q (ev rs e) H, H, H'⟩ :: tr) K
        | none => False
    | none => False

def loopN (body : Env → AHeap → (AX → Env → AHeap → Prop) → Prop) (Q : AX → Env → AHeap → Prop) : Nat → Env → AHeap → Prop
  | 0, _, _ => False
  | n + 1, e, H => body e H fun x e H => match x with
    | .normal => loopN body Q n e H
    | x => Q x e H

def CW (P : Program) (w0 : World) : AC → Env → AHeap → (AX → Env → AHeap → Prop) → Prop
  | .skip, e, H, Q => Q .normal e H
  | .ops l, e, H, Q => opsW P w0 l [] e H fun e H => Q .normal e H
  | .draw l cf, e, H, Q => opsD P w0 cf l [] e H [] fun e H => Q .normal e H
  | .seq a b, e, H, Q => CW P w0 a e H fun x e H => match x with
    | .normal => CW P w0 b e H Q
    | x => Q x e H
  | .cond c a b, e, H, Q => match ev [] e c with
    | some (.bool true) => CW P w0 a e H Q
    | some (.bool false) => CW P w0 b e H Q
    | _ => False
  | .block id a, e, H, Q => CW P w0 a e H fun x e H => match x with
    | .exit id' => if id' = id then Q .normal e H else Q (.exit id') e H
    | x => Q x e H
  | .loop a, e, H, Q => ∃ n, loopN (CW P w0 a) Q n e H
  | .exit id, e, H, Q => Q (.exit id) e H
  | .ret, e, H, Q => Q .ret e H

/-! ### Reading it off -/
def tmpsOf (xs : Array Operand) : List Nat := xs.toList.filterMap fun | .tmp t => some t | _ => none
def mopd (pv : List Nat) (ds : List (Option Nat)) (ts : List Nat) : Operand → Option AOpd
  | .tmp t => if ts.contains t then (match ds.findIdx? (fun d => d == some t) with
    | some k => some (.r k)
    | none => if pv.contains t then some (.v t) else none) else none
  | .const c => if constOk c then some (.k c) else none
  | .func f => some (.f f)
  | .global _ => none

def pdst (pv : List Nat) : Option Nat → Option Nat
  | some d => if pv.contains d then some d else none
  | none => none
def dstOk (nt : Nat) (ds : List (Option Nat)) : Option Nat → Bool
  | some d => decide (d < nt) && !ds.contains (some d)
  | none => true
def gOk (ds : List (Option Nat)) (j : Nat) : Bool := decide (j < ds.length) && (match ds[ds.length - 1 - j]? with | some (some _) => true | _ => false)

def cops1 (P : Program) (pv : List Nat) (nt : Nat) : List (Option Nat) → List Oper → Option (List AOper)
  | _, [] => some []
  | ds, o :: l =>
    match cop P (mopd pv ds (tmpsOf o.op.operands)) o.op, cops1 P pv nt (o.dst :: ds) l with
    | some q, some r =>
      if dstOk nt ds o.dst then
        (match o.guard with
        | none => some (⟨pdst pv o.dst, none, q⟩ :: r)
        | some (j, want) => if gOk ds j then some (⟨pdst pv o.dst, some (ds.length - 1 - j, want), q⟩ :: r) else none)
      else none
    | _, _ => none

/-- Behind what an operation must come: bits. -/
def depsOf (o : Oper) : List Nat := (o.after.toList.filter (Region.binds .any)).map (·.on)
def maskOf (acc : List Nat) (o : Oper) : Nat := (depsOf o).foldl (fun s j => s ||| 2 ^ j ||| acc.getD j 0) 0
def masks : List Nat → List Oper → List Nat
  | acc, [] => acc
  | acc, o :: l => masks (acc ++ [maskOf acc o]) l
def isChain (o : AOper) : Bool := cls o.op == 3
/-- May a region be taken in any order? -/
def drawOk (ops : List Oper) (l : List AOper) (bm : List Nat) : Bool :=
  (List.range ops.length).all fun i => match ops[i]?, l[i]? with
    | some o, some q =>
      (depsOf o).all (fun j => decide (j < i)) &&
      ((tmpsOf o.op.operands).all fun t => (List.range ops.length).all fun k => (match ops[k]? with
        | some u => !(u.dst == some t) || k == i || (if k < i then (bm.getD i 0).testBit k else (bm.getD k 0).testBit i)
        | none => true)) &&
      (match o.guard with
        | some (j, _) => (bm.getD i 0).testBit j
        | none => true) &&
      (!(isChain q || cls q.op == 2) || (List.range i).all fun k => (match l[k]? with
        | some u => !isChain u || (bm.getD i 0).testBit k
        | none => true))
    | _, _ => false
def confl (l : List AOper) (bm : List Nat) : List (Nat × Nat) :=
  (List.range l.length).flatMap fun i => (List.range l.length).filterMap fun j => match l[i]?, l[j]? with
    | some p, some q => if (cls q.op == 3) && ((cls p.op == 1 && (if i < j then !(bm.getD j 0).testBit i else decide (j < i) && !(bm.getD i 0).testBit j)) || (cls p.op == 2 && decide (i < j) && !(bm.getD j 0).testBit i)) then some (i, j) else none
    | _, _ => none
def cdraw (P : Program) (pv : List Nat) (nt : Nat) (ops : List Oper) : Option AC :=
  match cops1 P pv nt [] ops with
  | some l => if P.follows .mixedOrders && drawOk ops l (masks [] ops) then some (.draw l (confl l (masks [] ops))) else none
  | none => none

def ccode (P : Program) (pv : List Nat) (nt : Nat) : Code → Option AC
  | .skip => some .skip
  | .region _ ops false => (cops1 P pv nt [] ops.toList).map .ops
  | .region _ ops true => cdraw P pv nt ops.toList
  | .seq a b => match ccode P pv nt a, ccode P pv nt b with
    | some a, some b => some (.seq a b)
    | _, _ => none
  | .cond c a b => match mopd pv [] (tmpsOf #[c]) c, ccode P pv nt a, ccode P pv nt b with
    | some c, some a, some b => some (.cond c a b)
    | _, _, _ => none
  | .block id a => (ccode P pv nt a).map (.block id)
  | .loop a => (ccode P pv nt a).map .loop
  | .exit id => some (.exit id)
  | .ret => some .ret
  | _ => none

/-! ### That it suffices -/
structure Sat (P : Program) (w0 : World) (pv : List Nat) (nt : Nat) (ι : Inj) (e : Env) (H : AHeap) (a : Act) (w : World) : Prop where
  rel : RelH P w0 ι H w
  size : nt ≤ a.tmps.size
  defers : a.defers = []
  env : ∀ t v, pv.contains t = true → e t = some v → RelV ι v (a.tmps.getD t undef)

variable {P : Program} {w0 w : World} {ι : Inj} {H H' : AHeap} {pv : List Nat} {nt : Nat} {e : Env} {a : Act}

/-- What has been done so far of a region. -/
def Done (ι : Inj) (ds : List (Option Nat)) (rs : List Value) (a : Act) : Prop :=
  ds.length = rs.length ∧ ∀ (k d : Nat), ds[k]? = some (some d) → d < a.tmps.size ∧ ∃ v, rs[k]? = some v ∧ RelV ι v (a.tmps.getD d undef)

theorem mopd_opds (hS : Sat P w0 pv nt ι e H a w) {ds : List (Option Nat)} {rs : List Value} (hD : Done ι ds rs a) {ts : List Nat} : Opds ι (mopd pv ds ts) (ev rs e) a.eval := by
  intro x y u hx hy
  cases x with
  | tmp t =>
    simp only [mopd] at hx
    split at hx
    case isFalse => cases hx
    split at hx
    · rename_i k hk
      cases hx
      simp only [ev] at hy
      obtain ⟨hlt, hk2, _⟩ := List.findIdx?_eq_some_iff_getElem.1 hk
      have hdk : ds[k]? = some (some t) := by
        rw [List.getElem?_eq_getElem hlt]
        simpa using hk2
      obtain ⟨_, v, hv, hr⟩ := hD.2 k t hdk
      rw [hy] at hv; cases hv
      exact hr
    · split at hx
      · rename_i hpv
        cases hx
        exact hS.env t u hpv hy
      · cases hx
  | const c =>
    simp only [mopd] at hx
    split at hx
    · rename_i hc
      cases hx
      simp only [ev, Option.some.injEq] at hy
      subst hy
      exact constOk_rel hc
    · cases hx
  | func f =>
    simp only [mopd, Option.some.injEq] at hx
    subst hx
    simp only [ev, Option.some.injEq] at hy
    subst hy
    exact .func rfl rfl (fun j x y h => by simp at h) (fun j x y h => by simp at h)
  | global g => simp [mopd] at hx

theorem undef_rel : RelV ι undef undef := .tuple rfl (fun j x y h => by simp at h)

/-- All operations that call nothing. -/
theorem aop_good {m : Operand → Option AOpd} {ρ : AOpd → Option Value} {ρc : Operand → Value} {o : Oper} {q : AOp} {v : Value} (hm : Opds ι m ρ ρc) (hH : RelH P w0 ι H w) (hc : cop P m o.op = some q) (ha : aop q ρ H = some (v, H')) :
    Good P w0 ι H w ((execOp ρc o).run P w) v H' := by
  cases ho : o.op with
  | move x => rw [ho] at hc; exact good_mv (.inl ho) hm hH hc ha
  | assign x => rw [ho] at hc; exact good_mv (.inr ho) hm hH hc ha
  | pick c a b => rw [ho] at hc; exact good_pick ho hm hH hc ha
  | alloc t => rw [ho] at hc; exact good_alloc ho hH hc ha
  | box t x => rw [ho] at hc; exact good_box ho hm hH hc ha
  | build t ps => rw [ho] at hc; exact good_build ho hm hH hc ha
  | buildSlice t l ps => rw [ho] at hc; exact good_mksl ho hm hH hc ha
  | load t x => rw [ho] at hc; exact good_load ho hm hH hc ha
  | store t x y => rw [ho] at hc; exact good_store ho hm hH hc ha
  | nilCheck x => rw [ho] at hc; exact good_nilck ho hm hH hc ha
  | binOp op t x y u => rw [ho] at hc; exact good_bin ho hm hH hc ha
  | unOp op t x => rw [ho] at hc; exact good_un ho hm hH hc ha
  | convert s d x => rw [ho] at hc; exact good_conv ho hm hH hc ha
  | makeInterface t x => rw [ho] at hc; exact good_ifc ho hm hH hc ha
  | makeFunc n fs cs => rw [ho] at hc; exact good_fn ho hm hH hc ha
  | makeSlice t l c => rw [ho] at hc; exact good_mks ho hm hH hc ha
  | slice t x lo hi mx =>
    cases mx with
    | none => rw [ho] at hc; exact good_slc ho hm hH hc ha
    | some y => rw [ho] at hc; simp [cop] at hc
  | fieldAddr s x f => rw [ho] at hc; exact good_fa ho hm hH hc ha
  | field s x f => rw [ho] at hc; exact good_fld ho hm hH hc ha
  | indexAddr t x i => rw [ho] at hc; exact good_ia ho hm hH hc ha
  | extract x k => rw [ho] at hc; exact good_ext ho hm hH hc ha
  | call c =>
    rw [ho] at hc
    have hc' := hc
    simp only [cop] at hc
    split at hc
    · rename_i hb
      split at hc
      · rename_i t x ht hx
        exact good_len ho hb ht hx hm hH hc' ha
      · cases hc
    · rename_i hb
      split at hc
      · rename_i t u x y ht hx
        exact good_app ho hb ht hx hm hH hc' ha
      · cases hc
    · rename_i hb
      exact good_min ho hb hm hH hc' ha
    · rename_i hb
      split at hc
      · rename_i t u x y ht hx
        exact good_copy ho hb ht hx hm hH hc' ha
      · cases hc
    · rename_i f hb
      split at hc
      · split at hc
        · split at hc
          · obtain ⟨xs, _, rfl⟩ := Option.map_eq_some_iff.1 hc
            simp [aop] at ha
          · cases hc
        · cases hc
      · cases hc
    · split at hc
      · cases hc; simp [aop] at ha
      · cases hc
    · cases hc
  | panic x => rw [ho] at hc; simp only [cop] at hc; cases hc; simp [aop] at ha
  | _ => rw [ho] at hc; simp [cop] at hc

/-- The next operation's result laid down. -/
theorem Done.push {ι' : Inj} (hle : ι.le ι') {ds : List (Option Nat)} {rs : List Value} (hD : Done ι ds rs a) {d : Option Nat} {v v' : Value} (hv : RelV ι' v v') (hd : dstOk nt ds d = true) (hn : nt ≤ a.tmps.size) :
    Done ι' (d :: ds) (v :: rs) (a.put d v') := by
  refine ⟨by simp [hD.1], fun k c hk => ?_⟩
  cases d with
  | none =>
    cases k with
    | zero => simp at hk
    | succ k =>
      obtain ⟨h1, u, h2, h3⟩ := hD.2 k c (by simpa using hk)
      exact ⟨h1, u, by simpa using h2, h3.mono hle⟩
  | some d =>
    simp only [dstOk, Bool.and_eq_true, decide_eq_true_eq, Bool.not_eq_true', List.contains_eq_mem] at hd
    obtain ⟨hdn, hdc⟩ := hd
    have hsz : (a.put (some d) v').tmps.size = a.tmps.size := by simp [Act.put]
    cases k with
    | zero =>
      simp at hk; subst hk
      refine ⟨by rw [hsz]; omega, v, by simp, ?_⟩
      have : (a.put (some d) v').tmps.getD d undef = v' := by
        simp only [Act.put, Array.getD_eq_getD_getElem?]
        rw [Array.getElem?_setIfInBounds_self_of_lt (by omega)]; rfl
      rw [this]; exact hv
    | succ k =>
      have hk' : ds[k]? = some (some c) := by simpa using hk
      obtain ⟨h1, u, h2, h3⟩ := hD.2 k c hk'
      have hne : d ≠ c := fun h => by
        subst h
        have := List.mem_of_getElem? hk'
        simp [this] at hdc
      refine ⟨by rw [hsz]; exact h1, u, by simpa using h2, ?_⟩
      have : (a.put (some d) v').tmps.getD c undef = a.tmps.getD c undef := by
        simp only [Act.put, Array.getD_eq_getD_getElem?]
        rw [Array.getElem?_setIfInBounds_ne hne]
      rw [this]; exact h3.mono hle

theorem Sat.push {ι' : Inj} {w' : World} (hle : ι.le ι') (hS : Sat P w0 pv nt ι e H a w) (hR : RelH P w0 ι' H' w') {d : Option Nat} {v v' : Value} (hv : RelV ι' v v') (hd : ∀ c, d = some c → c < nt) :
    Sat P w0 pv nt ι' (e.put (pdst pv d) v) H' (a.put d v') w' := by
  refine ⟨hR, ?_, ?_, fun t u ht hu => ?_⟩
  · cases d <;> simp [Act.put] <;> exact hS.size
  · cases d <;> simp [Act.put] <;> exact hS.defers
  · cases d with
    | none => exact (hS.env t u ht hu).mono hle
    | some d =>
      have hdn := hd d rfl
      have hsz := hS.size
      by_cases htd : t = d
      · subst htd
        simp only [pdst, ht, if_true, Env.put, Option.some.injEq] at hu
        subst hu
        have : (a.put (some t) v').tmps.getD t undef = v' := by
          simp only [Act.put, Array.getD_eq_getD_getElem?]
          rw [Array.getElem?_setIfInBounds_self_of_lt (by omega)]; rfl
        rw [this]; exact hv
      · have h1 : (a.put (some d) v').tmps.getD t undef = a.tmps.getD t undef := by
          simp only [Act.put, Array.getD_eq_getD_getElem?]
          rw [Array.getElem?_setIfInBounds_ne (fun h => htd h.symm)]
        rw [h1]
        refine (hS.env t u ht ?_).mono hle
        simp only [pdst] at hu
        by_cases hc : pv.contains d = true
        · rw [if_pos hc] at hu; simpa [Env.put, htd] using hu
        · rw [if_neg hc] at hu; exact hu

def AX.to : AX → Exit
  | .normal => .normal
  | .exit id => .exit id
  | .ret => .ret

/-- What is shown of the machine's code. -/
def Lift (P : Program) (w0 : World) (pv : List Nat) (nt : Nat) (ι : Inj) (H : AHeap) (w : World) (Q : AX → Env → AHeap → Prop) : Exit → Act → World → Prop := fun ex a' w' =>
  ∃ x ι' e' H', ex = x.to ∧ Sat P w0 pv nt ι' e' H' a' w' ∧ Frame ι H w ι' H' w' ∧ Q x e' H'

theorem Lift.trans {ι' : Inj} {w' : World} {Q : AX → Env → AHeap → Prop} {ex : Exit} {a' : Act} {w'' : World} (hR : RelH P w0 ι H w) (hR' : RelH P w0 ι' H' w') (hF : Frame ι H w ι' H' w') (h : Lift P w0 pv nt ι' H' w' Q ex a' w'') : Lift P w0 pv nt ι H w Q ex a' w'' :=
  let ⟨x, ι2, e2, H2, h1, h2, h3, h4⟩ := h
  ⟨x, ι2, e2, H2, h1, h2, Frame.trans hR hR' hF h3, h4⟩

theorem callFunc_run {f : FuncId} {fn : Func} {c : Code} (hf : P.funcs[f]? = some fn) (hb : fn.body = some c) (hn : (fn.name == "runtime.NumGoroutine") = false) (args : Array Value) : (callFunc f args).run P w = .ok (.enter f args) w := by
  have hn' : ¬ fn.name = "runtime.NumGoroutine" := by simpa using hn
  simp [callFunc, hf, hb, hn']

theorem cop_call {m : Operand → Option AOpd} {op : Op} {f : FuncId} {xs : List AOpd} (h : cop P m op = some (.call f xs)) :
    ∃ c fn body, op = .call c ∧ c.callee = .value (.func f) ∧ P.funcs[f]? = some fn ∧ fn.body = some body ∧ (fn.name == "runtime.NumGoroutine") = false ∧ cops m c.args.toList = some xs := by
  cases op with
  | call c =>
    simp only [cop] at h
    split at h
    · (repeat' split at h) <;> cases h
    · (repeat' split at h) <;> cases h
    · obtain ⟨_, _, h⟩ := Option.map_eq_some_iff.1 h; cases h
    · (repeat' split at h) <;> cases h
    · rename_i f' hcal
      split at h
      · rename_i fn hfn
        split at h
        · rename_i body hbody
          split at h
          · rename_i hname
            obtain ⟨xs', hxs, h⟩ := Option.map_eq_some_iff.1 h
            cases h
            exact ⟨c, fn, body, rfl, hcal, hfn, hbody, hname, hxs⟩
          · cases h
        · cases h
      · cases h
    · split at h <;> cases h
    · cases h
  | slice t x lo hi mx =>
    cases mx with
    | none =>
      simp only [cop] at h
      split at h
      · obtain ⟨_, _, h⟩ := Option.map_eq_some_iff.1 h; cases h
      · cases h
    | some y => simp [cop] at h
  | _ => simp only [cop] at h; (repeat' split at h) <;> first | (cases h; done) | (obtain ⟨_, _, h⟩ := Option.map_eq_some_iff.1 h; cases h)

theorem cop_callv {m : Operand → Option AOpd} {op : Op} {x : AOpd} {xs : List AOpd} (h : cop P m op = some (.callv x xs)) :
    ∃ c t, op = .call c ∧ c.callee = .value (.tmp t) ∧ m (.tmp t) = some x ∧ cops m c.args.toList = some xs := by
  cases op with
  | call c =>
    simp only [cop] at h
    split at h
    · (repeat' split at h) <;> cases h
    · (repeat' split at h) <;> cases h
    · obtain ⟨_, _, h⟩ := Option.map_eq_some_iff.1 h; cases h
    · (repeat' split at h) <;> cases h
    · (repeat' split at h) <;> first | (cases h; done) | (obtain ⟨_, _, h⟩ := Option.map_eq_some_iff.1 h; cases h)
    · rename_i t' hcal
      split at h
      · rename_i x' xs' hx hxs
        cases h
        exact ⟨c, t', rfl, hcal, hx, hxs⟩
      · cases h
    · cases h
  | slice t x lo hi mx =>
    cases mx with
    | none =>
      simp only [cop] at h
      split at h
      · obtain ⟨_, _, h⟩ := Option.map_eq_some_iff.1 h; cases h
      · cases h
    | some y => simp [cop] at h
  | _ => simp only [cop] at h; (repeat' split at h) <;> first | (cases h; done) | (obtain ⟨_, _, h⟩ := Option.map_eq_some_iff.1 h; cases h)

/-- A region whose operations are done in their order. -/
theorem ops_sound (ops : Array Oper) : ∀ (l : List Oper) (ds : List (Option Nat)) (l' : List AOper) (rs : List Value) (ι : Inj) (e : Env) (H : AHeap) (a : Act) (w : World) (K : Env → AHeap → Prop) (Q : Exit → Act → World → Prop),
    (∀ j, l[j]? = ops[ds.length + j]?) → (∀ j : Nat, j < ds.length → ds[ds.length - 1 - j]? = (ops[j]?).map (·.dst)) → cops1 P pv nt ds l = some l' → Sat P w0 pv nt ι e H a w → Done ι ds rs a → opsW P w0 l' rs e H K →
    (∀ ι' e' H' a' w', Sat P w0 pv nt ι' e' H' a' w' → Frame ι H w ι' H' w' → K e' H' → Q .normal a' w') → wpList P ops Q l a w
  | [], ds, l', rs, ι, e, H, a, w, K, Q, _, _, hc, hS, hD, hW, hQ => by
    simp only [cops1, Option.some.injEq] at hc; subst hc
    exact hQ ι e H a w hS (Frame.refl _ _ _) hW
  | o :: l, ds, l', rs, ι, e, H, a, w, K, Q, hl, hds, hc, hS, hD, hW, hQ => by
    simp only [cops1] at hc
    split at hc
    case h_2 => cases hc
    rename_i q r hq hr
    by_cases hdst : dstOk nt ds o.dst = true
    case neg => rw [if_neg hdst] at hc; cases hc
    rw [if_pos hdst] at hc
    have hl' : ∀ j, l[j]? = ops[(o.dst :: ds).length + j]? := fun j => by
      have := hl (j + 1)
      simpa [Nat.add_assoc, Nat.add_comm 1 j] using this
    have ho : ops[ds.length]? = some o := by have := hl 0; simpa using this.symm
    have hds' : ∀ j : Nat, j < (o.dst :: ds).length → (o.dst :: ds)[(o.dst :: ds).length - 1 - j]? = (ops[j]?).map (·.dst) := fun j hj => by
      simp only [List.length_cons] at hj ⊢
      by_cases hjl : j = ds.length
      · subst hjl; simp [ho]
      · have e1 : ds.length + 1 - 1 - j = (ds.length - 1 - j) + 1 := by omega
        rw [e1, List.getElem?_cons_succ]
        exact hds j (by omega)
    have hdn : ∀ c, o.dst = some c → c < nt := fun c hcc => by
      rw [hcc] at hdst
      simp only [dstOk, Bool.and_eq_true, decide_eq_true_eq] at hdst
      exact hdst.1
    -- the guard
    obtain ⟨g, hl2, hg⟩ : ∃ g, l' = ⟨(pdst pv o.dst), g, q⟩ :: r ∧ ∀ b, gd rs g = some b → Region.wanted o (yielded ops a.tmps) = b := by
      split at hc
      · rename_i hgn
        cases hc
        refine ⟨none, rfl, fun b hb => ?_⟩
        simp only [gd, Option.some.injEq] at hb
        subst hb
        simp [Region.wanted, hgn]
      · rename_i j want hgs
        split at hc
        · rename_i hcond
          cases hc
          simp only [gOk, Bool.and_eq_true, decide_eq_true_eq] at hcond
          obtain ⟨hj, hdj⟩ := hcond
          refine ⟨_, rfl, fun b hb => ?_⟩
          split at hdj
          case h_2 => cases hdj
          rename_i d hd
          obtain ⟨hdl, v, hv, hrel⟩ := hD.2 _ d hd
          have hopj : (ops[j]?).bind (·.dst) = some d := by
            have := hds j hj
            rw [hd] at this
            cases hoj : ops[j]? with
            | none => rw [hoj] at this; simp at this
            | some oj => rw [hoj] at this; simp at this ⊢; exact this.symm
          have hgetD : a.tmps[d]? = some (a.tmps.getD d undef) := by
            rw [Array.getD_eq_getD_getElem?, Array.getElem?_eq_getElem hdl]; rfl
          have hy : yielded ops a.tmps j = (match a.tmps.getD d undef with | .bool b => some b | _ => none) := by
            simp only [yielded, hopj, Option.bind_some, hgetD]
            cases a.tmps.getD d undef <;> rfl
          simp only [gd, hv] at hb
          simp only [Region.wanted, hgs, hy]
          split at hb
          · rename_i b0 heq
            simp only [Option.some.injEq] at heq
            subst heq
            cases hb
            rw [bool_of hrel]
            rfl
          · rename_i vs heq
            simp only [Option.some.injEq] at heq
            subst heq
            cases hb
            generalize a.tmps.getD d undef = u at hrel
            cases hrel
            rfl
          · cases hb
        · cases hc
    subst hl2
    clear hc
    have hm := mopd_opds (ts := tmpsOf o.op.operands) hS hD
    have next : ∀ (v v' : Value) (ι' : Inj) (H' : AHeap) (w' : World), RelV ι' v v' → RelH P w0 ι' H' w' → Frame ι H w ι' H' w' →
        opsW P w0 r (v :: rs) (e.put (pdst pv o.dst) v) H' K → wpList P ops Q l (a.put o.dst v') w' := fun v v' ι' H' w' hv hR hF hW' =>
      ops_sound ops l (o.dst :: ds) r (v :: rs) ι' _ H' _ w' K Q hl' hds' hr (hS.push hF.le hR hv hdn) (hD.push hF.le hv hdst hS.size) hW' (fun ι2 e2 H2 a2 w2 hS2 hF2 hK => hQ ι2 e2 H2 a2 w2 hS2 (Frame.trans hS.rel hR hF hF2) hK)
    simp only [opsW] at hW
    simp only [wpList]
    split at hW
    · rename_i hgd
      rw [hg _ hgd, if_neg (by simp)]
      exact next undef undef ι H w undef_rel hS.rel (Frame.refl _ _ _) hW
    · rename_i hgd
      rw [hg _ hgd, if_pos rfl]
      refine .inl ?_
      split at hW
      · -- a call of a function
        rename_i _ f xs
        split at hW
        · rename_i vs hvs
          obtain ⟨c, fn, body, hop, hcal, hfn, hbody, hname, hxs⟩ := cop_call hq
          have hrel := evs_rel hm hxs hvs
          obtain ⟨v1, H1, hW, _, hW1⟩ := hW
          have hcall := hW ι w _ hS.rel hrel
          have hrun : (execOp a.eval o).run P w = .ok (.enter f (c.args.map a.eval)) w := by
            simp only [execOp, hop, resolve, hcal]
            simp [Act.eval, Deferred.ofValue, invoke, callFunc_run hfn hbody hname]
          unfold Oper.wp
          rw [hrun]
          simp only [Oper.upon]
          have harr : (List.map a.eval c.args.toList).toArray = c.args.map a.eval := by apply Array.ext'; simp
          rw [harr] at hcall
          refine hcall.mono ?_
          rintro ed w' ⟨ι', v, v', H', rfl, hR, hv, hF, rfl, rfl⟩
          exact next v v' ι' H' w' hv hR hF hW1
        · exact hW.elim
      · -- a function value's call
        rename_i _ x xs
        split at hW
        · rename_i t vs ht hvs
          split at hW
          · rename_i f fs cs htg
            obtain ⟨c, t', hop, hcal, hx, hxs⟩ := cop_callv hq
            have hrel := evs_rel hm hxs hvs
            have hrt := hm _ _ _ hx ht
            unfold target at htg
            split at htg
            · rename_i f0 fs0 cs0
              cases htg
              generalize hcv : a.eval (.tmp t') = cv at hrt
              cases hrt with
              | func h1 h2 h3 h4 =>
                rename_i f2 c2
                have hr1 : RelL ι fs0.toList f2.toList := ⟨by simpa using h1, fun j x y hx hy => h3 j x y (by simpa using hx) (by simpa using hy)⟩
                have hr2 : RelL ι cs0.toList c2.toList := ⟨by simpa using h2, fun j x y hx hy => h4 j x y (by simpa using hx) (by simpa using hy)⟩
                obtain ⟨hcb, v1, H1, hW, _, hW1⟩ := hW
                have hcall := hW ι w _ hS.rel ((hr1.append hrel).append hr2)
                have harr : (f2.toList ++ List.map a.eval c.args.toList ++ c2.toList).toArray = f2 ++ c.args.map a.eval ++ c2 := by apply Array.ext'; simp
                rw [harr] at hcall
                unfold callable at hcb
                split at hcb
                case h_2 => cases hcb
                rename_i fn hfn
                simp only [Bool.and_eq_true, Bool.not_eq_true', Option.isSome_iff_exists] at hcb
                obtain ⟨⟨body, hbody⟩, hname⟩ := hcb
                have hrun : (execOp a.eval o).run P w = .ok (.enter f (f2 ++ c.args.map a.eval ++ c2)) w := by
                  simp only [execOp, hop, resolve, hcal]
                  rw [Sem.run_bind]
                  simp only [hcv, Deferred.ofValue, Sem.run_pure, Result.andThen_ok, invoke, callFunc_run hfn hbody hname]
                unfold Oper.wp
                rw [hrun]
                simp only [Oper.upon]
                refine hcall.mono ?_
                rintro ed w' ⟨ι', v, v', H', rfl, hR, hv, hF, rfl, rfl⟩
                exact next v v' ι' H' w' hv hR hF hW1
            · cases htg
          · exact hW.elim
        · exact hW.elim
      · split at hW
        · rename_i v H' hv
          obtain ⟨ι', w', v', hrun, hR, hrel, hF⟩ := aop_good hm hS.rel hq hv
          unfold Oper.wp
          rcases hrun with hrun | ⟨hrun, rfl⟩
          · rw [hrun]
            exact next v v' ι' H' w' hrel hR hF hW
          · rw [hrun]
            exact next v undef ι' H' w' hrel hR hF hW
        · exact hW.elim
    · exact hW.elim

end Go.AB
