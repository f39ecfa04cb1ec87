/- Own framework, part 7: make, cuts, append, min. -/
import Derived.Test.YtnbamdhmhnhneaaB6
set_option linter.unusedVariables false
set_option linter.unusedSimpArgs false
namespace Go.AB
open Go.RowKit
variable {P : Program} {w0 w : World} {ι : Inj} {H H' : AHeap} {m : Operand → Option AOpd} {ρ : AOpd → Option Value} {ρc : Operand → Value}

theorem sliceT_eq {t e : TypeId} (h : sliceT P t = some e) : P.underlying t = some (.slice e) := by
  unfold sliceT at h; split at h
  · cases h; assumption
  · cases h

theorem getElem_flat {α : Type} [Inhabited α] (zs : List α) : ∀ (n j : Nat), j < n * zs.length → (List.replicate n zs).flatten[j]? = zs[j % zs.length]?
  | 0, j, h => by simp at h
  | n + 1, j, h => by
    rw [List.replicate_succ, List.flatten_cons]
    by_cases hj : j < zs.length
    · rw [List.getElem?_append_left hj, Nat.mod_eq_of_lt hj]
    · have h2 : j < n * zs.length + zs.length := by rw [← Nat.succ_mul]; exact h
      rw [List.getElem?_append_right (by omega), getElem_flat zs n (j - zs.length) (by omega)]
      rw [← Nat.mod_eq_sub_mod (by omega)]

theorem made_flat (z : Array Value) (n : Nat) (hz : 0 < z.size) : (madeCells z (n * z.size)).toList = (List.replicate n z.toList).flatten := by
  apply List.ext_getElem?
  intro j
  simp only [madeCells, Array.toList_map, List.getElem?_map]
  by_cases hj : j < n * z.size
  · have h1 : (Array.range (n * z.size)).toList[j]? = some j := by simp [hj]
    have hm : j % z.size < z.size := Nat.mod_lt _ hz
    rw [h1, getElem_flat z.toList n j (by simpa using hj)]
    simp [hm]
  · have h1 : (Array.range (n * z.size)).toList[j]? = none := by simp; omega
    rw [h1]
    simp
    omega

theorem new_mks {o : Oper} {q : AOp} {v : Value} {t : TypeId} {l c : Operand} (ho : o.op = .makeSlice t l c) (hm : Opds ι m ρ ρc) (hc : cop P m (.makeSlice t l c) = some q) (ha : aop q ρ H = some (v, H')) :
    ∃ vs ty, H' = H.alloc (.cells vs ty) ∧ NewC P ι H.n w ((execOp ρc o).run P w) v vs ty := by
  simp only [cop] at hc
  split at hc
  · rename_i e l' c' hes hl hcc
    split at hc
    · rename_i zs ti hz hti
      split at hc
      · rename_i hpos
        cases hc
        obtain ⟨ti2, z, hti2, hz', rfl, hsz, hok⟩ := zeroCs_eq hz
        rw [hti] at hti2; cases hti2
        simp only [aop] at ha
        split at ha
        · rename_i k1 n k2 n2 e1 e2
          have r1 := int_of (hm _ _ _ hl e1)
          have r2 := int_of (hm _ _ _ hcc e2)
          split at ha
          · rename_i hcond
            obtain ⟨rfl, h0, hb, h46⟩ := hcond
            cases ha
            have hrun := run_make (P := P) w t e ti z (sliceT_eq hes) hti hz' k1 k2 n n h0 (Int.le_refl _) (by rw [Int.mul_comm]; omega) (by omega)
            have hfl := made_flat z.cells n.toNat (by omega)
            rw [hsz] at hfl
            have hcz : P.cellsOf e = ti.size := by simp [Program.cellsOf, hti]
            let i : BI := ⟨w.heap.size, 0, P.cellsOf e, (madeCells z.cells (n.toNat * ti.size)).size, false⟩
            have hmem : ∀ u ∈ (List.replicate n.toNat z.cells.toList).flatten, constOk u = true := fun u hu => by
              obtain ⟨l, hl, hu⟩ := List.mem_flatten.1 hu
              rw [(List.mem_replicate.1 hl).2] at hu
              exact hok u hu
            refine ⟨_, _, rfl, NewC.of (cs := madeCells z.cells (n.toNat * ti.size)) (i := i) (v' := .slice (some ⟨w.heap.size, 0, none⟩) n.toNat n.toNat) rfl rfl rfl rfl rfl (fun x hx => constOk_one (hmem x hx)) (by rw [hfl]; exact const_rel hmem) ?_ ?_⟩
            · simp only [execOp, ho, r1, r2, Sem.run_bind, hrun]; rfl
            · refine RelV.slice (b := H.n) (off := 0) (i := i) (Inj.put_self _ _ _) (Nat.le_refl _) (.inr ?_) (.inr rfl)
              show 0 + n.toNat * P.cellsOf e ≤ (madeCells z.cells (n.toNat * ti.size)).size
              rw [size_madeCells, hcz]; omega
          · cases ha
        · cases ha
      · cases hc
    · cases hc
  · cases hc

theorem good_mks {o : Oper} {q : AOp} {v : Value} {t : TypeId} {l c : Operand} (ho : o.op = .makeSlice t l c) (hm : Opds ι m ρ ρc) (hH : RelH P w0 ι H w) (hc : cop P m (.makeSlice t l c) = some q) (ha : aop q ρ H = some (v, H')) :
    Good P w0 ι H w ((execOp ρc o).run P w) v H' := by
  obtain ⟨_, _, rfl, h⟩ := new_mks (ι := ι) (w := w) (ρc := ρc) ho hm hc ha
  exact h.good hH

theorem evo_rel (hm : Opds ι m ρ ρc) {x : Option Operand} {y : Option AOpd} {u : Option Value} (h : copo m x = some y) (k : evo ρ y = some u) : (x = none ∧ u = none) ∨ ∃ a b c, x = some a ∧ u = some b ∧ ρc a = c ∧ RelV ι b c := by
  cases x with
  | none =>
    simp only [copo, Option.some.injEq] at h; subst h
    simp only [evo, Option.some.injEq] at k; subst k
    exact .inl ⟨rfl, rfl⟩
  | some a =>
    simp only [copo] at h
    split at h
    · rename_i v hv
      cases h
      simp only [evo] at k
      split at k
      · rename_i b hb
        cases k
        exact .inr ⟨a, b, _, rfl, rfl, rfl, hm _ _ _ hv hb⟩
      · cases k
    · cases h

theorem cut_run {len cap : Nat} (hcap : len ≤ cap) {lo hi : Option Value} {lo' hi' : Option Value} {l h : Nat} (hc : cutAt len lo hi = some (l, h)) (h1 : lo = none ∧ lo' = none ∨ ∃ b c, lo = some b ∧ lo' = some c ∧ RelV ι b c) (h2 : hi = none ∧ hi' = none ∨ ∃ b c, hi = some b ∧ hi' = some c ∧ RelV ι b c) :
    (Instr.sliceBounds true len cap lo' hi' none).run P w = .ok (l, h, cap) w ∧ l ≤ h ∧ h ≤ len := by
  unfold cutAt at hc
  split at hc
  · rcases h1 with ⟨_, rfl⟩ | ⟨b, c, hb, _⟩
    · rcases h2 with ⟨_, rfl⟩ | ⟨b, c, hb, _⟩
      · cases hc; exact ⟨by simp [Instr.sliceBounds], by omega, by omega⟩
      · cases hb
    · cases hb
  · rename_i k n
    rcases h1 with ⟨h1, _⟩ | ⟨b, c, hb, rfl, r1⟩
    · cases h1
    · cases hb
      have := int_of r1; subst this
      rcases h2 with ⟨_, rfl⟩ | ⟨b, c, hb, _⟩
      · split at hc
        · rename_i hn
          cases hc; exact ⟨by simp [Instr.sliceBounds, Instr.sliceBound, asIntOf, hn], by omega, by omega⟩
        · cases hc
      · cases hb
  · rename_i k n
    rcases h2 with ⟨h1, _⟩ | ⟨b, c, hb, rfl, r1⟩
    · cases h1
    · cases hb
      have := int_of r1; subst this
      rcases h1 with ⟨_, rfl⟩ | ⟨b, c, hb, _⟩
      · split at hc
        · rename_i hn
          have hn2 : 0 ≤ n ∧ n ≤ (cap : Int) := by omega
          cases hc; exact ⟨by simp [Instr.sliceBounds, Instr.sliceBound, asIntOf, hn2], by omega, by omega⟩
        · cases hc
      · cases hb
  · rename_i k n k2 n2
    rcases h1 with ⟨h1, _⟩ | ⟨b, c, hb, rfl, r1⟩
    · cases h1
    · cases hb
      have := int_of r1; subst this
      rcases h2 with ⟨h1, _⟩ | ⟨b, c, hb, rfl, r2⟩
      · cases h1
      · cases hb
        have := int_of r2; subst this
        split at hc
        · rename_i hn
          have hn2 : 0 ≤ n2 ∧ n2 ≤ (cap : Int) := by omega
          have hn3 : 0 ≤ n ∧ n ≤ (n2.toNat : Int) := by omega
          have hmx : max n2 0 = n2 := by omega
          cases hc; exact ⟨by simp [Instr.sliceBounds, Instr.sliceBound, asIntOf, hn2, hmx, hn.1, hn.2.1], by omega, by omega⟩
        · cases hc
  · cases hc

theorem good_slc {o : Oper} {q : AOp} {v : Value} {t : TypeId} {x : Operand} {lo hi : Option Operand} (ho : o.op = .slice t x lo hi none) (hm : Opds ι m ρ ρc) (hH : RelH P w0 ι H w) (hc : cop P m (.slice t x lo hi none) = some q) (ha : aop q ρ H = some (v, H')) :
    Good P w0 ι H w ((execOp ρc o).run P w) v H' := by
  simp only [cop] at hc
  split at hc
  · rename_i e x' lo' hi' hes hx hlo hhi
    obtain ⟨sz, hsz, rfl⟩ := Option.map_eq_some_iff.1 hc
    obtain ⟨ti, hti, hti'⟩ := Option.map_eq_some_iff.1 hsz
    simp only [aop] at ha
    split at ha
    · rename_i a l h e1 e2 e3
      have r1 := hm _ _ _ hx e1
      have r2 := evo_rel hm hlo e2
      have r3 := evo_rel hm hhi e3
      split at ha
      · rename_i u hu
        cases ha
        have c1 : l = none ∧ lo.map ρc = none ∨ ∃ b c, l = some b ∧ lo.map ρc = some c ∧ RelV ι b c := by
          rcases r2 with ⟨rfl, rfl⟩ | ⟨a, b, c, rfl, rfl, rfl, r⟩
          · exact .inl ⟨rfl, rfl⟩
          · exact .inr ⟨b, _, rfl, rfl, r⟩
        have c2 : h = none ∧ hi.map ρc = none ∨ ∃ b c, h = some b ∧ hi.map ρc = some c ∧ RelV ι b c := by
          rcases r3 with ⟨rfl, rfl⟩ | ⟨a, b, c, rfl, rfl, rfl, r⟩
          · exact .inl ⟨rfl, rfl⟩
          · exact .inr ⟨b, _, rfl, rfl, r⟩
        generalize hcx : ρc x = cx at r1
        unfold sliceV at hu
        cases r1 <;> simp only at hu <;> try (cases hu; done)
        · split at hu
          · rename_i p hp
            obtain ⟨l0, h0⟩ := p
            obtain ⟨hrun, h1, h2⟩ := cut_run (P := P) (w := w) (Nat.le_refl 0) hp c1 c2
            cases hu
            refine .pure hH (v' := .slice none 0 0) ?_ .snil
            have hl0 : l0 = 0 := by omega
            have hh0 : h0 = 0 := by omega
            subst hl0; subst hh0
            simp only [execOp, ho, hcx, Instr.sliceAt, Instr.slice, sizeOf, typeInfo]
            simp [run_underlying (sliceT_eq hes), hrun, hti]
          · cases hu
        · rename_i b off off' len cap cap' i hb hl hr hoff
          split at hu
          · rename_i p l0 h0 hp
            obtain ⟨hrun, h1, h2⟩ := cut_run (P := P) (w := w) hl hp c1 c2
            split at hu
            · rename_i hrow
              cases hu
              have hcz : P.cellsOf e = sz := by simp [Program.cellsOf, hti, hti']
              have hroom : i.ro = true ∨ off' + cap' * sz ≤ i.sz ∧ i.esz = sz := by
                rcases hr with hr | hr
                · exact .inl hr
                · have hob := hH.obj b i hb
                  unfold rowOk at hrow
                  split at hrow
                  · rename_i vs ty' hg
                    rw [hg] at hob
                    have := hob.2.2.1
                    simp only [beq_iff_eq] at hrow
                    rw [hrow, hcz] at this
                    rw [this] at hr
                    exact .inr ⟨hr, this⟩
                  · rename_i vs hg
                    rw [hg] at hob
                    exact .inl hob.2.1
                  · cases hrow
              refine .pure hH (v' := .slice (some (if cap' = l0 then ⟨i.cb, off', none⟩ else ⟨i.cb, off' + l0 * ti.size, none⟩)) (h0 - l0) (cap' - l0)) ?_ ?_
              · have hslice : (Instr.slice t (.slice (some ⟨i.cb, off', none⟩) len cap') (lo.map ρc) (hi.map ρc) none).run P w = .ok (.slice (some (if cap' = l0 then ⟨i.cb, off', none⟩ else ⟨i.cb, off' + l0 * ti.size, none⟩)) (h0 - l0) (cap' - l0)) w := by
                  simp only [Instr.slice, Sem.run_bind, run_underlying (sliceT_eq hes), Result.andThen_ok, hrun, sizeOf, typeInfo, run_program, hti, Sem.run_pure]
                  by_cases hcl : cap' = l0
                  · rw [if_pos hcl, if_pos hcl]
                  · rw [if_neg hcl, if_neg hcl]; simp [Addr.add_lit]
                simp only [execOp, ho, hcx, Instr.sliceAt, Sem.run_bind, run_underlying (sliceT_eq hes), Result.andThen_ok, hslice, Option.map_none]
                rfl
              · rw [hti']
                split
                · rename_i hcl
                  refine .slice hb (by omega) ?_ (.inl (by omega))
                  rcases hroom with h | ⟨h, he⟩
                  · exact .inl h
                  · refine .inr ?_
                    have : cap' - l0 = 0 := by omega
                    rw [this]; omega
                · rename_i hcl
                  refine .slice hb (by omega) ?_ ?_
                  · rcases hroom with h | ⟨h, he⟩
                    · exact .inl h
                    · refine .inr ?_
                      rw [he, Nat.add_assoc, ← Nat.add_mul, show l0 + (cap' - l0) = cap' by omega]
                      exact h
                  · rcases hoff with h | h
                    · exact .inl (by omega)
                    · exact .inr (by omega)
            · cases hu
          · cases hu
        · rename_i b off cap a i hb hr
          split at hu
          · rename_i p l0 h0 hp
            obtain ⟨hrun, h1, h2⟩ := cut_run (P := P) (w := w) (Nat.le_refl 0) hp c1 c2
            split at hu
            · cases hu
              have hl0 : l0 = 0 := by omega
              have hh0 : h0 = 0 := by omega
              subst hl0; subst hh0
              refine .pure hH (v' := .slice (some a) 0 0) ?_ (.sany hb hr)
              have hslice : (Instr.slice t (.slice (some a) 0 0) (lo.map ρc) (hi.map ρc) none).run P w = .ok (.slice (some a) 0 0) w := by
                simp only [Instr.slice, Sem.run_bind, run_underlying (sliceT_eq hes), Result.andThen_ok, hrun, sizeOf, typeInfo, run_program, hti, Sem.run_pure]
                simp
              simp only [execOp, ho, hcx, Instr.sliceAt, Sem.run_bind, run_underlying (sliceT_eq hes), Result.andThen_ok, hslice, Option.map_none]
              rfl
            · cases hu
          · cases hu
      · cases ha
    · cases ha
  · cases hc
theorem elems_src (hH : RelH P w0 ι H w) {sz n c : Nat} {b : Option Addr} {x : Value} {ys : List Value} {tx e' : TypeId} (hk : P.underlying tx = some (.slice e')) (he : elems H sz (.slice b n c) = some ys) (hr : RelV ι (.slice b n c) x) :
    (∀ u ∈ ys, u.oneCell' = true) ∧ ys.length = n * sz ∧ ∃ zs, RelL ι ys zs ∧ Src P sz tx x n zs w := by
  generalize hxx : Value.slice b n c = xx at hr
  cases hr <;> try (cases hxx; done)
  · cases hxx
    simp only [elems, Option.some.injEq] at he
    subst he
    exact ⟨fun u hu => (by cases hu), (by simp), [], RelL.nil, Src.ofNil w hk 0⟩
  · rename_i b' off off' len cap cap' i hb hl hroom hoff
    cases hxx
    simp only [elems] at he
    split at he
    · rename_i vs hvs
      obtain ⟨o1, zs, hrl, hcell⟩ := cells_rel hH hb hvs he
      have hyl := (seg_eq he).2.2
      refine ⟨o1, hyl, zs, hrl, ?_⟩
      have hzl : zs.length = n * sz := by rw [← hrl.1]; exact hyl
      have hone : ∀ z ∈ zs, z.oneCell' = true := fun z hz => by
        obtain ⟨j, hj⟩ := List.mem_iff_getElem?.1 hz
        have hjl : j < ys.length := by have := (List.getElem?_eq_some_iff.1 hj).1; rw [hrl.1]; exact this
        exact (hrl.2 j _ z (List.getElem?_eq_getElem hjl) hj).one (o1 _ (List.getElem_mem hjl))
      refine Src.ofSlice w hk ⟨i.cb, off', none⟩ n cap' zs hzl (fun j u hu => ?_) hone
      have hjl : j < n * sz := by have := (List.getElem?_eq_some_iff.1 hu).1; omega
      have hn0 : n ≠ 0 := fun h => by rw [h] at hjl; simp at hjl
      have ho : off' = off + i.d := by omega
      rw [Addr.add_lit, ho]
      exact hcell j u hu
    · cases he
  · cases hxx
    have hys : ys = [] := by
      simp only [elems] at he
      split at he
      · have := (seg_eq he).2.2; simpa using this
      · cases he
    subst hys
    exact ⟨fun u hu => (by cases hu), (by simp), [], RelL.nil, Src.ofSlice w hk _ 0 0 [] (by simp) (fun j u hu => by simp at hu) (fun z hz => by cases hz)⟩

/-- A new row with more cells behind. -/
theorem Good.row {r : Result Next} {vs cs1 : List Value} {cs : Array Value} {ty : TypeId} {v : Value} {i : BI} {v' : Value} (hH : RelH P w0 ι H w) (hi : i.cb = w.heap.size) (hd : i.d = 0) (hro : i.ro = false) (hez : i.esz = P.cellsOf ty) (hs : i.sz = cs.size) (h1 : ∀ x ∈ vs, x.oneCell' = true)
    (hl : RelL ι vs cs1) (hcs : ∃ rest, cs.toList = cs1 ++ rest) (hr : r = .ok (.value v') (w.drew.alloc (.cells cs ty))) (hv : RelV (ι.put H.n i) v v') : Good P w0 ι H w r v (H.alloc (.cells vs ty)) := by
  have hle := hH.le_put i
  obtain ⟨rest, hrest⟩ := hcs
  have hF := Frame.alloc (hH.drew) (.cells vs ty) (.cells cs ty (0, 0)) (i := i) hi
  refine ⟨ι.put H.n i, _, v', .inl hr, hH.drew.alloc hi ?_, hv, ⟨hF.le, hF.grow, hF.alive, hF.size, hF.keep, hF.new⟩⟩
  refine ⟨by rw [hi]; exact hH.old.size, hro, hez, cs, (0, 0), ?_, fun j _ => by simp, hs, ?_, ?_⟩
  · show (w.heap.push _)[i.cb]? = _
    rw [hi]; simp
  · have h2 := hl.1
    have h3 : cs.size = cs1.length + rest.length := by rw [← Array.length_toList, hrest]; simp
    omega
  · intro j x hx
    obtain ⟨y, hy, hxy⟩ := hl.get hx
    refine ⟨h1 x (List.mem_of_getElem? hx), y, ?_, hxy.mono hle⟩
    rw [hd, Nat.zero_add, ← Array.getElem?_toList, hrest, List.getElem?_append_left (List.getElem?_eq_some_iff.1 hy).1]
    exact hy

theorem RelH.reuse (h : RelH P w0 ι H w) {b : Nat} {i i' : BI} (hb : ι b = some i) (hown : (H.get b).own = true) (hi : i'.cb = i.cb) {w' : World} (hB : Below w0.heap.size w0 w') (hsz : w'.heap.size = w.heap.size) (hk : ∀ c, c ≠ i.cb → w'.heap[c]? = w.heap[c]?)
    {o : AObj} (ho : ObjRel P w0 (ι.put H.n i') i' w' o) : RelH P w0 (ι.put H.n i') ((H.set b .dead).alloc o) w' ∧ Frame ι H w (ι.put H.n i') ((H.set b .dead).alloc o) w' := by
  have hK := h.kill b
  have hle := h.le_put i'
  have hget : ∀ c, c ≠ H.n → ((H.set b .dead).alloc o).get c = (H.set b .dead).get c := fun c hc => AHeap.alloc_ne _ _ hc
  have hself : ((H.set b .dead).alloc o).get H.n = o := AHeap.alloc_self (H.set b .dead) o
  have hdead : ∀ c, (((H.set b .dead)).get c).own = true → c ≠ b ∧ (H.get c).own = true := fun c hc => by
    by_cases hcb : c = b
    · subst hcb; rw [AHeap.set_dead] at hc; simp [AObj.own] at hc
    · rw [AHeap.set_ne H _ hcb] at hc; exact ⟨hcb, hc⟩
  refine ⟨⟨hB, fun c j hc => ?_, fun c j hc => ?_, fun c c' j j' hc hc' o1 o2 he => ?_⟩, ⟨hle, by simp, fun c hc hoc => (hdead c (by rwa [hget c (Nat.ne_of_lt hc)] at hoc)).2, by rw [hsz]; exact Nat.le_refl _, fun cb hcb hn => hk cb (fun e => hn b i hb hown e.symm), fun c j hc hc' => ?_⟩⟩
  · by_cases hcn : c = H.n
    · subst hcn; simp
    · rw [Inj.put_ne ι i' hcn] at hc; have := h.dom c j hc; simp; omega
  · by_cases hcn : c = H.n
    · subst hcn; rw [Inj.put_self] at hc; cases hc; rw [hself]; exact ho
    · rw [Inj.put_ne ι i' hcn] at hc
      rw [hget c hcn]
      refine (hK.obj c j hc).mono hle (fun hoc => ?_)
      obtain ⟨hcb, hco⟩ := hdead c hoc
      exact hk _ (fun e => hcb (h.inj c b j i hc hb hco hown e))
  · by_cases hcn : c = H.n
    · by_cases hcn' : c' = H.n
      · rw [hcn, hcn']
      · subst hcn
        rw [Inj.put_self] at hc; cases hc
        rw [Inj.put_ne ι _ hcn'] at hc'
        rw [hget c' hcn'] at o2
        obtain ⟨hcb, hco⟩ := hdead c' o2
        exact absurd (h.inj c' b j' i hc' hb hco hown (by omega)) hcb
    · rw [Inj.put_ne ι i' hcn] at hc
      rw [hget c hcn] at o1
      obtain ⟨hcb, hco⟩ := hdead c o1
      by_cases hcn' : c' = H.n
      · subst hcn'
        rw [Inj.put_self] at hc'; cases hc'
        exact absurd (h.inj c b j i hc hb hco hown (by omega)) hcb
      · rw [Inj.put_ne ι i' hcn'] at hc'
        rw [hget c' hcn'] at o2
        obtain ⟨_, hco'⟩ := hdead c' o2
        exact h.inj c c' j j' hc hc' hco hco' he
  · by_cases hcn : c = H.n
    · subst hcn
      rw [Inj.put_self] at hc'; cases hc'
      exact ⟨Nat.le_refl _, fun _ => .inr ⟨b, i, hb, hown, hi.symm⟩⟩
    · rw [Inj.put_ne ι i' hcn, hc] at hc'; cases hc'

theorem good_app {o : Oper} {q : AOp} {v : Value} {c : Call} (ho : o.op = .call c) {t u : TypeId} {x y : Operand} (hb : c.callee = .builtin .append) (ht : c.argTypes.toList = [t, u]) (hx : c.args.toList = [x, y]) (hm : Opds ι m ρ ρc) (hH : RelH P w0 ι H w) (hc : cop P m (.call c) = some q) (ha : aop q ρ H = some (v, H')) :
    Good P w0 ι H w ((execOp ρc o).run P w) v H' := by
  simp only [cop, hb, ht, hx] at hc
  split at hc
  · rename_i e e2 x' y' hes hes2 hx' hy'
    split at hc
    · rename_i ti hti
      split at hc
      · rename_i z hz
        split at hc
        · rename_i hsz
          obtain ⟨hsz, hpos⟩ := hsz
          cases hc
          simp only [aop] at ha
          split at ha
          · rename_i a b e1 e2'
            have r1 := hm _ _ _ hx' e1
            have r2 := hm _ _ _ hy' e2'
            have ht' : c.argTypes = #[t, u] := by apply Array.ext'; simpa using ht
            have hx2 : c.args = #[x, y] := by apply Array.ext'; simpa using hx
            have hrun : ∀ r w', (Builtin.append_ #[t, u] o.type #[ρc x, ρc y]).run P w = .ok r w' → (execOp ρc o).run P w = .ok (.value r) w' := fun r w' h => by
              simp [execOp, ho, resolve, hb, ht', hx2, invoke, builtin, h]
            have hcz : P.cellsOf e = ti.size := by simp [Program.cellsOf, hti]
            unfold appV at ha
            split at ha
            · rename_i a b ys bs n cap hys
              obtain ⟨o1, hyl, zs, hrl, hsrc⟩ := elems_src hH (sliceT_eq hes2) hys r2
              have hzl : zs.length = n * ti.size := by rw [← hrl.1]; exact hyl
              have hcx : ρc x = .slice none 0 0 := by generalize ρc x = cx at r1; cases r1; rfl
              rw [hcx] at hrun
              split at ha
              · rename_i hn
                cases ha
                subst hn
                have : zs = [] := List.eq_nil_of_length_eq_zero (by omega)
                subst this
                exact .pure hH (hrun _ _ (run_append_nothing w t u o.type e ti (sliceT_eq hes) hti none 0 0 (Nat.le_refl _) _ hsrc)) .snil
              · rename_i hn
                split at ha
                · rename_i hbd
                  cases ha
                  have hnx := nextslicecap_le (need := 0 + n) (old := 0) (by omega)
                  have hfit : Builtin.nextslicecap (0 + n) 0 * ti.bytes ≤ 281474976710656 := by
                    have h1 : Builtin.nextslicecap (0 + n) 0 * ti.bytes ≤ 2 * (0 + n) * ti.bytes := Nat.mul_le_mul_right _ hnx
                    have h2 : 2 * (0 + n) * ti.bytes = 2 * (n * ti.bytes) := by rw [Nat.zero_add, Nat.mul_assoc]
                    omega
                  have hg := run_append_grow_src (P := P) w t u o.type e ti z (sliceT_eq hes) hti hz none 0 0 [] (by simp [Builtin.firstCells]) _ n zs hsrc (by omega) (by omega) hfit
                  have hgc := grownCap_ge w (0 + n) 0 e
                  let G := grownCap w (0 + n) 0 e
                  have hG : 0 + n ≤ G := hgc
                  let cs : Array Value := (([] ++ zs).toArray ++ Builtin.zeroCells z.cells (G - (0 + n)))
                  have hcs : cs.size = G * ti.size := by
                    show ((([] ++ zs).toArray ++ Builtin.zeroCells z.cells (G - (0 + n)))).size = _
                    rw [Array.size_append, size_zeroCells, hsz]
                    simp only [List.nil_append, List.size_toArray, hzl]
                    rw [← Nat.add_mul]; congr 1; omega
                  let i : BI := ⟨w.heap.size, 0, P.cellsOf e, cs.size, false⟩
                  refine Good.row (cs := cs) (cs1 := zs) (i := i) (v' := .slice (some ⟨w.heap.size, 0, none⟩) (0 + n) G) hH rfl rfl rfl rfl rfl o1 hrl ⟨(Builtin.zeroCells z.cells (G - (0 + n))).toList, by simp [cs]⟩ (hrun _ _ hg) ?_
                  rw [Nat.zero_add]
                  refine RelV.slice (b := H.n) (off := 0) (i := i) (Inj.put_self _ _ _) (by omega) (.inr ?_) (.inr rfl)
                  show 0 + G * P.cellsOf e ≤ cs.size
                  rw [hcs, hcz]; omega
                · cases ha
            · rename_i a b ad len cap ys bs n cap2 hys
              obtain ⟨o1, hyl, zs, hrl, hsrc⟩ := elems_src hH (sliceT_eq hes2) hys r2
              have hzl : zs.length = n * ti.size := by rw [← hrl.1]; exact hyl
              split at ha
              · rename_i vs ty' hg
                split at ha
                · rename_i hcond
                  obtain ⟨rfl, hfits, hb46, h46⟩ := hcond
                  cases ha
                  generalize hcx : ρc x = cx at r1 hrun
                  cases r1 with
                  | sany hbι hro' =>
                    have hob := hH.obj _ _ hbι
                    simp only at hg
                    rw [hg] at hob
                    have := hob.2.1
                    rw [hro'] at this; cases this
                  | slice hbι hl hroom hoff =>
                    rename_i b off off' cap' i
                    simp only at hg hfits
                    have hob := hH.obj b i hbι
                    rw [hg] at hob
                    obtain ⟨hbase, hro, hesz, cs, fr, hh, hu, hs, hld, hv⟩ := hob
                    have hroom' : off' + cap' * ti.size ≤ cs.size := by
                      rcases hroom with h | h
                      · rw [h] at hro; cases hro
                      · rw [hesz, hcz] at h; omega
                    have hold : ∀ j, j < len * ti.size → ∃ x y, vs[off + j]? = some x ∧ x.oneCell' = true ∧ cs[off' + j]? = some y ∧ RelV ι x y := fun j hj => by
                      have hxj : vs[off + j]? = some vs[off + j] := List.getElem?_eq_getElem (by omega)
                      obtain ⟨h1, y, hy, hr⟩ := hv _ _ hxj
                      have hl0 : len ≠ 0 := fun h => by rw [h] at hj; simp at hj
                      have ho' : off' = off + i.d := by omega
                      exact ⟨_, y, hxj, h1, by rw [ho', show off + i.d + j = i.d + (off + j) by omega]; exact hy, hr⟩
                    have hlen2 : ((vs.drop off).take (len * ti.size)).length = len * ti.size := by simp; omega
                    have hget2 : ∀ j x, ((vs.drop off).take (len * ti.size) ++ ys)[j]? = some x → (j < len * ti.size ∧ vs[off + j]? = some x) ∨ (len * ti.size ≤ j ∧ ys[j - len * ti.size]? = some x) := fun j x hx => by
                      by_cases hj : j < len * ti.size
                      · rw [List.getElem?_append_left (by omega), List.getElem?_take_of_lt hj, List.getElem?_drop] at hx
                        exact .inl ⟨hj, hx⟩
                      · rw [List.getElem?_append_right (by omega), hlen2] at hx
                        exact .inr ⟨by omega, hx⟩
                    by_cases hin : len + n ≤ cap'
                    · -- there is room
                      have hnm : (len + n) * ti.size ≤ cap' * ti.size := Nat.mul_le_mul_right _ hin
                      rw [Nat.add_mul] at hnm
                      have hrm := run_append_room_src (P := P) w t u o.type ty' ti (sliceT_eq hes) hti i.cb off' len cap' _ n zs hsrc hin
                        (fun j hj => by rw [cell_of_block hh, Array.getElem?_eq_getElem (by omega)]; rfl) (fun j hj => frozen_of_block hh hu (by omega))
                      let i' : BI := { i with d := off' }
                      have hnew := setCells_heap i.cb ty' fr zs (off' + len * ti.size) w cs hh
                      have hR := hH.reuse (i' := i') hbι (by rw [hg]; rfl) rfl (w' := w.setCells i.cb (off' + len * ti.size) zs) (setCells_below hbase _ _ _ _ hH.old) (setCells_size _ _ _ _) (fun c hc => setCells_other i.cb c hc _ _ _)
                        (o := .cells ((vs.drop off).take (len * ti.size) ++ ys) ty') ⟨hbase, hro, hesz, _, fr, hnew, by rw [putCells_size]; exact hu, by rw [putCells_size]; exact hs, by rw [putCells_size]; simp only [List.length_append, hlen2, hyl]; show off' + _ ≤ _; omega, fun j x hx => by
                          have hle := hH.le_put i'
                          rcases hget2 j x hx with ⟨hj, hx⟩ | ⟨hj, hx⟩
                          · obtain ⟨x', y, hx', h1, hy, hr⟩ := hold j hj
                            rw [hx] at hx'; cases hx'
                            refine ⟨h1, y, ?_, hr.mono hle⟩
                            rw [putCells_get _ _ _ _ (by omega), if_neg (show ¬ (off' + len * ti.size ≤ off' + j ∧ _) by omega)]
                            exact hy
                          · obtain ⟨y, hy, hr⟩ := hrl.get hx
                            have hjl : j - len * ti.size < zs.length := (List.getElem?_eq_some_iff.1 hy).1
                            refine ⟨o1 x (List.mem_of_getElem? hx), y, ?_, hr.mono hle⟩
                            rw [putCells_get _ _ _ _ (by omega), if_pos (show off' + len * ti.size ≤ off' + j ∧ off' + j < off' + len * ti.size + zs.length by omega), show off' + j - (off' + len * ti.size) = j - len * ti.size by omega]
                            exact hy⟩
                      refine ⟨ι.put H.n i', _, _, .inl (hrun _ _ hrm), hR.1, ?_, hR.2⟩
                      refine RelV.slice (b := H.n) (off := 0) (i := i') (Inj.put_self _ _ _) hin ?_ (.inr (by show off' = 0 + off'; omega))
                      rcases hroom with h | h
                      · exact .inl h
                      · exact .inr h
                    · -- a new row
                      have hnx := nextslicecap_le (need := len + n) (old := cap') (by omega)
                      have hfit : Builtin.nextslicecap (len + n) cap' * ti.bytes ≤ 281474976710656 := by
                        have h1 : Builtin.nextslicecap (len + n) cap' * ti.bytes ≤ 2 * (len + n) * ti.bytes := Nat.mul_le_mul_right _ hnx
                        have h2 : 2 * (len + n) * ti.bytes = 2 * ((len + n) * ti.bytes) := by rw [Nat.mul_assoc]
                        omega
                      let olds : List Value := (cs.toList.drop off').take (len * ti.size)
                      have hlm : len * ti.size ≤ cap' * ti.size := Nat.mul_le_mul_right _ hl
                      have hol : olds.length = len * ti.size := by simp [olds]; omega
                      have hog : ∀ j y, olds[j]? = some y → cs[off' + j]? = some y := fun j y hy => by
                        have hj : j < len * ti.size := by have := (List.getElem?_eq_some_iff.1 hy).1; omega
                        simp only [olds] at hy
                        rw [List.getElem?_take_of_lt hj, List.getElem?_drop, Array.getElem?_toList] at hy
                        exact hy
                      have hRold : RelL ι ((vs.drop off).take (len * ti.size)) olds := ⟨by rw [hlen2, hol], fun j x y hx hy => by
                        have hj : j < len * ti.size := by have := (List.getElem?_eq_some_iff.1 hy).1; omega
                        obtain ⟨x', y', hx', h1, hy', hr⟩ := hold j hj
                        rw [List.getElem?_take_of_lt hj, List.getElem?_drop] at hx
                        rw [hx] at hx'; cases hx'
                        have := hog j y hy
                        rw [hy'] at this; cases this
                        exact hr⟩
                      have hfirst : (Builtin.firstCells ti.size len (.slice (some ⟨i.cb, off', none⟩) len cap')).run P w.drew = .ok olds.toArray w.drew := by
                        have := run_loadCells_list (P := P) w.drew ⟨i.cb, off', none⟩ olds (fun j y hy => by rw [Addr.add_lit]; show w.cell? _ = _; rw [cell_of_block hh]; exact hog j y hy)
                        rw [hol] at this
                        exact this
                      have hgr := run_append_grow_src (P := P) w t u o.type ty' ti z (sliceT_eq hes) hti hz (some ⟨i.cb, off', none⟩) len cap' olds hfirst _ n zs hsrc (by omega) (by omega) hfit
                      have hgc := grownCap_ge w (len + n) cap' ty'
                      let G := grownCap w (len + n) cap' ty'
                      have hG : len + n ≤ G := hgc
                      let cs' : Array Value := ((olds ++ zs).toArray ++ Builtin.zeroCells z.cells (G - (len + n)))
                      have hcs : cs'.size = G * ti.size := by
                        show (((olds ++ zs).toArray ++ Builtin.zeroCells z.cells (G - (len + n)))).size = _
                        rw [Array.size_append, size_zeroCells, hsz]
                        simp only [List.size_toArray, List.length_append, hzl, hol]
                        rw [← Nat.add_mul, ← Nat.add_mul]; congr 1; omega
                      have hK := hH.kill b
                      let j : BI := ⟨w.heap.size, 0, P.cellsOf ty', cs'.size, false⟩
                      have hrow := Good.row (H := H.set b .dead) (cs := cs') (vs := (vs.drop off).take (len * ti.size) ++ ys) (cs1 := olds ++ zs) (i := j) (v := .slice (some ⟨H.n, 0, none⟩) (len + n) (len + n)) (v' := .slice (some ⟨w.heap.size, 0, none⟩) (len + n) G) hK rfl rfl rfl rfl rfl (fun z hz => by
                        rcases List.mem_append.1 hz with h | h
                        · obtain ⟨k, hk⟩ := List.mem_iff_getElem?.1 h
                          have hkl : k < len * ti.size := by have := (List.getElem?_eq_some_iff.1 hk).1; omega
                          obtain ⟨x', y', hx', h1, _⟩ := hold k hkl
                          rw [List.getElem?_take_of_lt hkl, List.getElem?_drop] at hk
                          rw [hk] at hx'; cases hx'; exact h1
                        · exact o1 z h) (hRold.append hrl) ⟨(Builtin.zeroCells z.cells (G - (len + n))).toList, by simp [cs']⟩ (hrun _ _ hgr) (by
                          refine RelV.slice (b := H.n) (off := 0) (i := j) (Inj.put_self _ _ _) hG (.inr ?_) (.inr rfl)
                          show 0 + G * P.cellsOf ty' ≤ cs'.size
                          rw [hcs, hcz]; omega)
                      obtain ⟨ι', w', v', h1, h2, h3, h4⟩ := hrow
                      refine ⟨ι', w', v', h1, h2, h3, ⟨h4.le, h4.grow, fun c hc hoc => (by
                        have h9 := h4.alive c hc hoc
                        by_cases hcb : c = b
                        · subst hcb; rw [hg]; rfl
                        · rwa [AHeap.set_ne H _ hcb] at h9), h4.size, fun cb hcb hn => h4.keep cb hcb (fun c k hc hoc => ?_), fun c k hc hk => ?_⟩⟩
                      · refine hn c k hc ?_
                        by_cases hcb : c = b
                        · subst hcb; rw [hg]; rfl
                        · rwa [AHeap.set_ne H _ hcb] at hoc
                      · obtain ⟨h5, h6⟩ := h4.new c k hc hk
                        refine ⟨h5, fun hoc => ?_⟩
                        rcases h6 hoc with h7 | ⟨d, kd, hd, hod, he⟩
                        · exact .inl h7
                        · refine .inr ⟨d, kd, hd, ?_, he⟩
                          by_cases hdb : d = b
                          · subst hdb; rw [hg]; rfl
                          · rwa [AHeap.set_ne H _ hdb] at hod
                · cases ha
              · cases ha
            · cases ha
          · cases ha
        · cases hc
      · cases hc
    · cases hc
  · cases hc

theorem min_run : ∀ (vs : List Value) (k : IntKind) (a : Int) (v : Value), minL (.int k a) vs = some v → (vs.foldlM Builtin.min2 (.int k a)).run P w = .ok v w ∧ RelV ι v v ∧ ∀ u ∈ vs, ∃ k b, u = .int k b
  | [], k, a, v, h => by
    simp only [minL, Option.some.injEq] at h; subst h
    exact ⟨by simp, .int _ _, fun u hu => by cases hu⟩
  | .int k' b :: r, k, a, v, h => by
    simp only [minL] at h
    obtain ⟨h1, h2, h3⟩ := min_run r k _ v h
    refine ⟨?_, h2, fun u hu => ?_⟩
    · rw [List.foldlM_cons, Sem.run_bind]
      simp only [Builtin.min2, Sem.run_pure, Result.andThen_ok]
      exact h1
    · rcases List.mem_cons.1 hu with rfl | hu
      · exact ⟨_, _, rfl⟩
      · exact h3 u hu
  | .bool _ :: _, _, _, _, h | .float _ _ :: _, _, _, _, h | .complex _ _ _ :: _, _, _, _, h | .string _ :: _, _, _, _, h | .pointer _ :: _, _, _, _, h | .slice _ _ _ :: _, _, _, _, h | .map _ :: _, _, _, _, h | .chan _ :: _, _, _, _, h
  | .func _ _ _ :: _, _, _, _, h | .nilFunc :: _, _, _, _, h | .iface _ _ :: _, _, _, _, h | .nilIface :: _, _, _, _, h | .agg _ :: _, _, _, _, h | .tuple _ :: _, _, _, _, h => by simp [minL] at h

theorem ints_eq : ∀ {xs ys : List Value}, RelL ι xs ys → (∀ u ∈ xs, ∃ k b, u = .int k b) → ys = xs
  | [], [], _, _ => rfl
  | [], _ :: _, h, _ => by have := h.1; simp at this
  | _ :: _, [], h, _ => by have := h.1; simp at this
  | x :: xs, y :: ys, h, hi => by
    obtain ⟨k, b, rfl⟩ := hi x (by simp)
    rw [int_of h.head, ints_eq h.tail (fun u hu => hi u (by simp [hu]))]

theorem good_min {o : Oper} {q : AOp} {v : Value} {c : Call} (ho : o.op = .call c) (hb : c.callee = .builtin .min) (hm : Opds ι m ρ ρc) (hH : RelH P w0 ι H w) (hc : cop P m (.call c) = some q) (ha : aop q ρ H = some (v, H')) :
    Good P w0 ι H w ((execOp ρc o).run P w) v H' := by
  simp only [cop, hb] at hc
  obtain ⟨xs, hxs, rfl⟩ := Option.map_eq_some_iff.1 hc
  simp only [aop] at ha
  split at ha
  · rename_i v0 vs hvs
    have hr := evs_rel hm hxs hvs
    split at ha
    · rename_i u hu
      cases ha
      cases v0 <;> try (cases vs <;> simp [minL] at hu; done)
      rename_i k a
      obtain ⟨h1, h2, h3⟩ := min_run (P := P) (w := w) (ι := ι) vs k a v hu
      have he := ints_eq hr (fun u hu => by
        rcases List.mem_cons.1 hu with rfl | hu
        · exact ⟨_, _, rfl⟩
        · exact h3 u hu)
      refine .pure hH (v' := v) ?_ h2
      have hargs : (c.args.map ρc).toList = .int k a :: vs := by simpa using he
      simp only [execOp, ho, resolve, hb, Sem.run_bind, Sem.run_pure, Result.andThen_ok, invoke, builtin, Builtin.min_, hargs, h1]
    · cases ha
  · cases ha

end Go.AB
