/- Own framework, part 4: each abstract operation is what the machine's operation does. -/
import Derived.Test.YtnbamdhmhnhneaaB3
set_option linter.unusedVariables false
set_option linter.unusedSimpArgs false
namespace Go.AB
open Go.RowKit
variable {P : Program} {w0 w : World} {ι : Inj} {H H' : AHeap} {m : Operand → Option AOpd} {ρ : AOpd → Option Value} {ρc : Operand → Value}

def Good (P : Program) (w0 : World) (ι : Inj) (H : AHeap) (w : World) (r : Result Next) (v : Value) (H' : AHeap) : Prop :=
  ∃ ι' w' v', (r = .ok (.value v') w' ∨ (r = .ok .skip w' ∧ v' = undef)) ∧ RelH P w0 ι' H' w' ∧ RelV ι' v v' ∧ Frame ι H w ι' H' w'

/-- The operands stand to each other. -/
def Opds (ι : Inj) (m : Operand → Option AOpd) (ρ : AOpd → Option Value) (ρc : Operand → Value) : Prop := ∀ x y u, m x = some y → ρ y = some u → RelV ι u (ρc x)

theorem Good.pure {r : Result Next} {v v' : Value} (hH : RelH P w0 ι H w) (hr : r = .ok (.value v') w) (hv : RelV ι v v') : Good P w0 ι H w r v H :=
  ⟨ι, w, v', .inl hr, hH, hv, Frame.refl _ _ _⟩

theorem Holds.of_list {vs cs : List Value} (h1 : ∀ x ∈ vs, x.oneCell' = true) (h : RelL ι vs cs) : Holds ι vs cs.toArray 0 := fun j x hx =>
  let ⟨y, hy, r⟩ := h.get hx
  ⟨h1 x (List.mem_of_getElem? hx), y, by simpa using hy, r⟩

/-- A new row of cells. -/
theorem Good.alloc {r : Result Next} {vs : List Value} {cs : Array Value} {ty : TypeId} {v : Value} {i : BI} {v' : Value} (hH : RelH P w0 ι H w) (hi : i.cb = w.heap.size) (hd : i.d = 0) (hro : i.ro = false) (hez : i.esz = P.cellsOf ty) (hs : i.sz = cs.size) (h1 : ∀ x ∈ vs, x.oneCell' = true)
    (hl : RelL ι vs cs.toList) (hr : r = .ok (.value v') (w.alloc (.cells cs ty))) (hv : RelV (ι.put H.n i) v v') : Good P w0 ι H w r v (H.alloc (.cells vs ty)) := by
  have hle := hH.le_put i
  refine ⟨ι.put H.n i, _, v', .inl hr, hH.alloc hi ?_, hv, Frame.alloc hH _ _ hi⟩
  have hc : w.heap.size < (w.heap.push (.cells cs ty (0, 0))).size := by simp
  refine ⟨by rw [hi]; exact hH.old.size, hro, hez, cs, (0, 0), ?_, fun j _ => by simp, hs, ?_, ?_⟩
  · show (w.heap.push _)[i.cb]? = _
    rw [hi]; simp
  · have := hl.1; rw [hd]; simp at this ⊢; omega
  · rw [hd]
    have := (Holds.of_list h1 hl).mono hle
    simpa using this

/-- A new row of cells, whatever the heap. -/
def NewC (P : Program) (ι : Inj) (n : Nat) (w : World) (r : Result Next) (v : Value) (vs : List Value) (ty : TypeId) : Prop :=
  ∃ (cs : Array Value) (i : BI) (v' : Value), i.cb = w.heap.size ∧ i.d = 0 ∧ i.ro = false ∧ i.esz = P.cellsOf ty ∧ i.sz = cs.size ∧ (∀ x ∈ vs, x.oneCell' = true) ∧ RelL ι vs cs.toList ∧ r = .ok (.value v') (w.alloc (.cells cs ty)) ∧ RelV (ι.put n i) v v'
theorem NewC.of {n : Nat} {r : Result Next} {vs : List Value} {cs : Array Value} {ty : TypeId} {v : Value} {i : BI} {v' : Value} (hi : i.cb = w.heap.size) (hd : i.d = 0) (hro : i.ro = false) (hez : i.esz = P.cellsOf ty) (hs : i.sz = cs.size) (h1 : ∀ x ∈ vs, x.oneCell' = true)
    (hl : RelL ι vs cs.toList) (hr : r = .ok (.value v') (w.alloc (.cells cs ty))) (hv : RelV (ι.put n i) v v') : NewC P ι n w r v vs ty := ⟨cs, i, v', hi, hd, hro, hez, hs, h1, hl, hr, hv⟩
theorem NewC.good {r : Result Next} {vs : List Value} {ty : TypeId} {v : Value} (hH : RelH P w0 ι H w) (h : NewC P ι H.n w r v vs ty) : Good P w0 ι H w r v (H.alloc (.cells vs ty)) :=
  let ⟨_, _, _, h1, h2, h3, h4, h5, h6, h7, h8, h9⟩ := h
  Good.alloc hH h1 h2 h3 h4 h5 h6 h7 h8 h9

theorem int_of {a : Value} {k : IntKind} {n : Int} (h : RelV ι (.int k n) a) : a = .int k n := by cases h; rfl
theorem bool_of {a : Value} {b : Bool} (h : RelV ι (.bool b) a) : a = .bool b := by cases h; rfl
theorem str_of {a : Value} {b : ByteArray} (h : RelV ι (.string b) a) : a = .string b := by cases h; rfl

theorem evs_rel (hm : Opds ι m ρ ρc) : ∀ {xs : List Operand} {ys : List AOpd} {vs : List Value}, cops m xs = some ys → evs ρ ys = some vs → RelL ι vs (xs.map ρc)
  | [], ys, vs, h, k => by
    simp only [cops, Option.some.injEq] at h; subst h
    simp only [evs, Option.some.injEq] at k; subst k
    exact .nil
  | x :: xs, ys, vs, h, k => by
    simp only [cops] at h
    split at h
    · rename_i y ys' hy hys
      cases h
      simp only [evs] at k
      split at k
      · rename_i v vs' hv hvs
        cases k
        exact .cons (hm x y v hy hv) (evs_rel hm hys hvs)
      · cases k
    · cases h
theorem evp_rel (hm : Opds ι m ρ ρc) : ∀ {xs : List (Nat × Operand)} {ys : List (Nat × AOpd)} {vs : List (Nat × Value)}, copp m xs = some ys → evp ρ ys = some vs → vs.map (·.1) = xs.map (·.1) ∧ RelL ι (vs.map (·.2)) (xs.map (fun p => ρc p.2))
  | [], ys, vs, h, k => by
    simp only [copp, Option.some.injEq] at h; subst h
    simp only [evp, Option.some.injEq] at k; subst k
    exact ⟨rfl, .nil⟩
  | (i, x) :: xs, ys, vs, h, k => by
    simp only [copp] at h
    split at h
    · rename_i y ys' hy hys
      cases h
      simp only [evp] at k
      split at k
      · rename_i v vs' hv hvs
        cases k
        have := evp_rel hm hys hvs
        exact ⟨by simp [this.1], .cons (hm x y v hy hv) this.2⟩
      · cases k
    · cases h

/-! ### What only computes -/
theorem good_mv {o : Oper} {q : AOp} {v : Value} {x : Operand} (ho : o.op = .move x ∨ o.op = .assign x) (hm : Opds ι m ρ ρc) (hH : RelH P w0 ι H w) (hc : (m x).map AOp.mv = some q) (ha : aop q ρ H = some (v, H')) :
    Good P w0 ι H w ((execOp ρc o).run P w) v H' := by
  obtain ⟨y, hy, rfl⟩ := Option.map_eq_some_iff.1 hc
  simp only [aop] at ha
  split at ha
  · rename_i u hu
    have hr := hm x y u hy hu
    cases ha
    rcases ho with ho | ho <;> exact .pure hH (v' := ρc x) (by simp [execOp, ho]) hr
  · cases ha

theorem pickV_rel {t : Bool} {a b a' b' : Value} (ha : RelV ι a a') (hb : RelV ι b b') : RelV ι (pickV t a b) (if t = true then a' else b') := by
  unfold pickV
  split
  · have := bool_of ha; have := bool_of hb; subst_vars
    cases t <;> exact .bool _
  · cases t
    · simpa using hb
    · simpa using ha

theorem good_pick {o : Oper} {q : AOp} {v : Value} {c a b : Operand} (ho : o.op = .pick c a b) (hm : Opds ι m ρ ρc) (hH : RelH P w0 ι H w) (hc : cop P m (.pick c a b) = some q) (ha : aop q ρ H = some (v, H')) :
    Good P w0 ι H w ((execOp ρc o).run P w) v H' := by
  simp only [cop] at hc
  split at hc
  · rename_i c' a' b' h1 h2 h3
    cases hc
    simp only [aop] at ha
    split at ha
    · rename_i t x y e1 e2 e3
      cases ha
      have r1 := bool_of (hm _ _ _ h1 e1)
      refine .pure hH (v' := if t = true then ρc a else ρc b) ?_ (pickV_rel (hm _ _ _ h2 e2) (hm _ _ _ h3 e3))
      simp only [execOp, ho, r1]
      simp [asBool]
    · cases ha
  · cases hc

theorem guard_int {op : BinOp} {t : TypeId} {k k' : IntKind} {a b : Int} (x y : Operand) : eqGuard op t x y (.int k a) (.int k' b) = pure () := by
  unfold eqGuard
  cases op <;> simp

theorem abin_int {op : BinOp} {t : TypeId} {k k' : IntKind} {a b : Int} {v : Value} (h : abin op (.int k a) (.int k' b) = some v) : (binOp op t (.int k a) (.int k' b)).run P w = .ok v w ∧ RelV ι v v := by
  cases op <;> simp only [abin] at h
  case shl | shr =>
    split at h
    · rename_i hb
      cases h
      have hb' : ¬ b < 0 := by omega
      simp [binOp, Op.shift, hb']
      exact .int _ _
    · cases h
  all_goals
    split at h
    · rename_i hk
      subst hk
      first
      | (cases h; done)
      | (cases h; exact ⟨by simp [binOp, Op.intArith, Op.intBits, Op.intCmp, Go.bits], by first | exact .int _ _ | exact .bool _⟩)
      | (split at h
         · cases h
         · rename_i hb
           cases h
           exact ⟨by simp [binOp, Op.intDiv, hb], .int _ _⟩)
    · cases h

theorem good_bin {o : Oper} {q : AOp} {v : Value} {op : BinOp} {t u : TypeId} {x y : Operand} (ho : o.op = .binOp op t x y u) (hm : Opds ι m ρ ρc) (hH : RelH P w0 ι H w) (hc : cop P m (.binOp op t x y u) = some q) (ha : aop q ρ H = some (v, H')) :
    Good P w0 ι H w ((execOp ρc o).run P w) v H' := by
  simp only [cop] at hc
  split at hc
  · rename_i x' y' h1 h2
    cases hc
    simp only [aop] at ha
    split at ha
    · rename_i a b e1 e2
      have r1 := hm _ _ _ h1 e1
      have r2 := hm _ _ _ h2 e2
      split at ha
      · rename_i r hr
        cases ha
        have key : ((do eqGuard op t x y (ρc x) (ρc y); binOp op t (ρc x) (ρc y)) : Sem Value).run P w = .ok v w ∧ RelV ι v v := by
          unfold abin at hr
          split at hr
          · rename_i k a k' b
            have f1 := int_of r1
            have f2 := int_of r2
            rw [f1, f2, guard_int]
            exact abin_int (by unfold abin; exact hr)
          · cases hr
        refine .pure hH (v' := v) ?_ key.2
        simp only [execOp, ho]
        rw [Sem.run_bind, key.1]; rfl
      · cases ha
    · cases ha
  · cases hc

theorem good_un {o : Oper} {q : AOp} {v : Value} {op : UnOp} {t : TypeId} {x : Operand} (ho : o.op = .unOp op t x) (hm : Opds ι m ρ ρc) (hH : RelH P w0 ι H w) (hc : cop P m (.unOp op t x) = some q) (ha : aop q ρ H = some (v, H')) :
    Good P w0 ι H w ((execOp ρc o).run P w) v H' := by
  obtain ⟨y, hy, rfl⟩ := Option.map_eq_some_iff.1 hc
  simp only [aop] at ha
  split at ha
  · rename_i a e1
    have r1 := hm _ _ _ hy e1
    split at ha
    · rename_i r hr
      cases ha
      refine .pure hH (v' := v) ?_ ?_ <;> (unfold aun at hr; split at hr)
      · have f := bool_of r1
        split at hr
        · cases hr; simp [execOp, ho, f, Op.unary]
        · cases hr
      · have f := int_of r1
        split at hr <;> cases hr <;> simp [execOp, ho, f, Op.unary, Op.intArith, Op.intBits, Go.bits]
      · cases hr
      · split at hr <;> cases hr; exact .bool _
      · split at hr <;> cases hr <;> exact .int _ _
      · cases hr
    · cases ha
  · cases ha

theorem good_conv {o : Oper} {q : AOp} {v : Value} {s d : TypeId} {x : Operand} (ho : o.op = .convert s d x) (hm : Opds ι m ρ ρc) (hH : RelH P w0 ι H w) (hc : cop P m (.convert s d x) = some q) (ha : aop q ρ H = some (v, H')) :
    Good P w0 ι H w ((execOp ρc o).run P w) v H' := by
  simp only [cop] at hc
  split at hc
  · rename_i k1 k x' hs hd hx
    cases hc
    simp only [aop] at ha
    split at ha
    · rename_i k2 n e1
      have r1 := int_of (hm _ _ _ hx e1)
      cases ha
      have hs' : P.underlying s = some (.int k1) := by
        unfold isIntT at hs; split at hs
        · cases hs; assumption
        · cases hs
      have hd' : P.underlying d = some (.int k) := by
        unfold isIntT at hd; split at hd
        · cases hd; assumption
        · cases hd
      refine .pure hH (v' := .int k (k.wrap n)) ?_ (.int _ _)
      simp [execOp, ho, r1, convert, run_underlying hs', run_underlying hd', Conv.intToInt]
    · cases ha
  · cases hc

theorem good_ifc {o : Oper} {q : AOp} {v : Value} {t : TypeId} {x : Operand} (ho : o.op = .makeInterface t x) (hm : Opds ι m ρ ρc) (hH : RelH P w0 ι H w) (hc : cop P m (.makeInterface t x) = some q) (ha : aop q ρ H = some (v, H')) :
    Good P w0 ι H w ((execOp ρc o).run P w) v H' := by
  simp only [cop] at hc
  split at hc
  · cases hc
  · rename_i d hn hd
    obtain ⟨y, hy, rfl⟩ := Option.map_eq_some_iff.1 hc
    simp only [aop] at ha
    split at ha
    · rename_i a e1
      have r1 := hm _ _ _ hy e1
      cases ha
      refine .pure hH (v' := .iface t (ρc x)) ?_ (.iface r1)
      cases d with
      | interface ms => exact (hn ms rfl).elim
      | _ => simp [execOp, ho, Instr.makeInterface, run_underlying hd]
    · cases ha
  · cases hc

theorem good_fn {o : Oper} {q : AOp} {v : Value} {n : Fn} {fs cs : Array Operand} (ho : o.op = .makeFunc n fs cs) (hm : Opds ι m ρ ρc) (hH : RelH P w0 ι H w) (hc : cop P m (.makeFunc n fs cs) = some q) (ha : aop q ρ H = some (v, H')) :
    Good P w0 ι H w ((execOp ρc o).run P w) v H' := by
  simp only [cop] at hc
  split at hc
  · rename_i a b h1 h2
    cases hc
    simp only [aop] at ha
    split at ha
    · rename_i a' b' e1 e2
      have r1 := evs_rel hm h1 e1
      have r2 := evs_rel hm h2 e2
      cases ha
      refine .pure hH (v' := .func n (fs.map ρc) (cs.map ρc)) (by simp [execOp, ho, Instr.makeFunc]) ?_
      refine .func (by have := r1.1; simpa using this) (by have := r2.1; simpa using this) (fun j x y hx hy => r1.2 j x y (by simpa using hx) (by simpa using hy)) (fun j x y hx hy => r2.2 j x y (by simpa using hx) (by simpa using hy))
    · cases ha
  · cases hc

theorem good_ext {o : Oper} {q : AOp} {v : Value} {k : Nat} {x : Operand} (ho : o.op = .extract x k) (hm : Opds ι m ρ ρc) (hH : RelH P w0 ι H w) (hc : cop P m (.extract x k) = some q) (ha : aop q ρ H = some (v, H')) :
    Good P w0 ι H w ((execOp ρc o).run P w) v H' := by
  obtain ⟨y, hy, rfl⟩ := Option.map_eq_some_iff.1 hc
  simp only [aop] at ha
  split at ha
  · rename_i vs e1
    have r1 := hm _ _ _ hy e1
    split at ha
    · rename_i u hu
      cases ha
      generalize hcx : ρc x = cx at r1
      cases r1 with
      | tuple h2 h4 =>
        rename_i c2
        have hj : k < c2.size := by have := (Array.getElem?_eq_some_iff.1 hu).1; omega
        refine .pure hH (v' := c2[k]) ?_ (h4 k _ _ hu (Array.getElem?_eq_getElem hj))
        simp [execOp, ho, hcx, Instr.extract, Array.getElem?_eq_getElem hj]
    · cases ha
  · cases ha

theorem good_fa {o : Oper} {q : AOp} {v : Value} {s : TypeId} {f : Nat} {x : Operand} (ho : o.op = .fieldAddr s x f) (hm : Opds ι m ρ ρc) (hH : RelH P w0 ι H w) (hc : cop P m (.fieldAddr s x f) = some q) (ha : aop q ρ H = some (v, H')) :
    Good P w0 ι H w ((execOp ρc o).run P w) v H' := by
  simp only [cop] at hc
  split at hc
  · rename_i fs x' hfs hx
    split at hc
    · rename_i fd hfd
      split at hc
      · cases hc
      · rename_i n hn hsz
        cases hc
        simp only [aop] at ha
        split at ha
        · rename_i a e1
          have r1 := hm _ _ _ hx e1
          cases ha
          generalize hcx : ρc x = cx at r1
          cases r1 with
          | ptr hb =>
            rename_i b off i
            have hs' : P.underlying s = some (.struct fs) := by
              unfold structT at hfs; split at hfs
              · cases hfs; assumption
              · cases hfs
            obtain ⟨ti, hti, hti'⟩ := Option.map_eq_some_iff.1 hsz
            refine .pure hH (v' := .pointer (some ⟨i.cb, off + fd.offset + i.d, none⟩)) ?_ (.ptr hb)
            have hz : ¬ ti.size = 0 := by rw [hti']; exact hn
            simp [execOp, ho, hcx, Instr.fieldAt, run_underlying hs', hfd, Instr.sureAddr, fieldPlace, sizeOf, typeInfo, hti, hz, Addr.add_lit, Nat.add_right_comm]
        · cases ha
      · cases hc
    · cases hc
  · cases hc

theorem good_ia {o : Oper} {q : AOp} {v : Value} {t : TypeId} {x y : Operand} (ho : o.op = .indexAddr t x y) (hm : Opds ι m ρ ρc) (hH : RelH P w0 ι H w) (hc : cop P m (.indexAddr t x y) = some q) (ha : aop q ρ H = some (v, H')) :
    Good P w0 ι H w ((execOp ρc o).run P w) v H' := by
  simp only [cop] at hc
  split at hc
  · rename_i e x' y' hes hx hy
    obtain ⟨sz, hsz, rfl⟩ := Option.map_eq_some_iff.1 hc
    simp only [aop] at ha
    split at ha
    · rename_i a len cap k n e1 e2
      have r1 := hm _ _ _ hx e1
      have r2 := int_of (hm _ _ _ hy e2)
      split at ha
      · rename_i hn
        cases ha
        generalize hcx : ρc x = cx at r1
        cases r1 with
        | sany hb hr => exfalso; have := hn.2; omega
        | slice hb hl hr hoff =>
          rename_i b off off' cap' i
          have hs' : P.underlying t = some (.slice e) := by
            unfold sliceT at hes; split at hes
            · cases hes; assumption
            · cases hes
          obtain ⟨ti, hti, hti'⟩ := Option.map_eq_some_iff.1 hsz
          have ho' : off' = off + i.d := by omega
          refine .pure hH (v' := .pointer (some ⟨i.cb, off + n.toNat * sz + i.d, none⟩)) ?_ (.ptr hb)
          simp [execOp, ho, hcx, r2, Instr.indexAt, run_underlying hs', asIntOf, hn, sizeOf, typeInfo, hti, hti', Addr.add_lit, Nat.add_right_comm, ho']
      · cases ha
    · cases ha
  · cases hc

theorem good_len {o : Oper} {q : AOp} {v : Value} {c : Call} (ho : o.op = .call c) {t : TypeId} {x : Operand} (hb : c.callee = .builtin .len) (ht : c.argTypes.toList = [t]) (hx : c.args.toList = [x]) (hm : Opds ι m ρ ρc) (hH : RelH P w0 ι H w) (hc : cop P m (.call c) = some q) (ha : aop q ρ H = some (v, H')) :
    Good P w0 ι H w ((execOp ρc o).run P w) v H' := by
  simp only [cop, hb, ht, hx] at hc
  split at hc
  · rename_i e x' hes hx'
    cases hc
    simp only [aop] at ha
    split at ha
    · rename_i b n cap e1
      have r1 := hm _ _ _ hx' e1
      cases ha
      have hs' : P.underlying t = some (.slice e) := by
        unfold sliceT at hes; split at hes
        · cases hes; assumption
        · cases hes
      have ht' : c.argTypes = #[t] := by apply Array.ext'; simpa using ht
      have hx2 : c.args = #[x] := by apply Array.ext'; simpa using hx
      refine .pure hH (v' := .int .i64 n) ?_ (.int _ _)
      generalize hcx : ρc x = cx at r1
      cases r1 <;> simp [execOp, ho, resolve, hb, ht', hx2, hcx, invoke, builtin, Builtin.len_, run_underlying hs', goInt]
    · cases ha
  · cases hc

end Go.AB
