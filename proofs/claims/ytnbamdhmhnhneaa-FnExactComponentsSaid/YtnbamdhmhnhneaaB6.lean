/- Own framework, part 6: literals, make, cuts, append, min. -/
import Derived.Test.YtnbamdhmhnhneaaB5
import Derived.Deep.Upon
set_option linter.unusedVariables false
set_option linter.unusedSimpArgs false
namespace Go.AB
open Go.RowKit
variable {P : Program} {w0 w : World} {ι : Inj} {H H' : AHeap} {m : Operand → Option AOpd} {ρ : AOpd → Option Value} {ρc : Operand → Value}

theorem RelL.set {xs ys : List Value} (h : RelL ι xs ys) {x y : Value} (hx : RelV ι x y) (k : Nat) : RelL ι (xs.set k x) (ys.set k y) := by
  refine ⟨by simp [h.1], fun j a b ha hb => ?_⟩
  rw [List.getElem?_set] at ha hb
  split at ha
  · rename_i hk
    subst hk
    split at ha
    · rw [if_pos rfl, if_pos (by have := h.1; omega)] at hb
      cases ha; cases hb; exact hx
    · cases ha
  · rename_i hk
    rw [if_neg hk] at hb
    exact h.2 j a b ha hb
theorem one_set {xs : List Value} (h : ∀ x ∈ xs, x.oneCell' = true) {x : Value} (hx : x.oneCell' = true) (k : Nat) : ∀ y ∈ xs.set k x, y.oneCell' = true := fun y hy => by
  rcases List.mem_or_eq_of_mem_set hy with h1 | rfl
  · exact h y h1
  · exact hx

theorem foldl_rel (off : Nat) : ∀ (vs vs' : List Value) (k : Nat) (cs cs' : Array Value), RelL ι vs vs' → (∀ x ∈ vs, x.oneCell' = true) → RelL ι cs.toList cs'.toList → (∀ x ∈ cs.toList, x.oneCell' = true) →
    RelL ι ((vs.zipIdx k).foldl (fun cs (p : Value × Nat) => cs.setIfInBounds (off + p.2) p.1) cs).toList ((vs'.zipIdx k).foldl (fun cs (p : Value × Nat) => cs.setIfInBounds (off + p.2) p.1) cs').toList ∧
      ∀ x ∈ ((vs.zipIdx k).foldl (fun cs (p : Value × Nat) => cs.setIfInBounds (off + p.2) p.1) cs).toList, x.oneCell' = true
  | [], [], k, cs, cs', _, _, h, h1 => ⟨h, h1⟩
  | [], _ :: _, k, cs, cs', hv, _, _, _ => by have := hv.1; simp at this
  | _ :: _, [], k, cs, cs', hv, _, _, _ => by have := hv.1; simp at this
  | v :: vs, v' :: vs', k, cs, cs', hv, hv1, h, h1 => by
    simp only [List.zipIdx_cons, List.foldl_cons]
    refine foldl_rel off vs vs' (k + 1) _ _ hv.tail (fun x hx => hv1 x (by simp [hx])) ?_ ?_
    · simp only [Array.toList_setIfInBounds]; exact h.set hv.head _
    · simp only [Array.toList_setIfInBounds]; exact one_set h1 (hv1 v (by simp)) _

theorem fill_rel (place : Nat → Option (Nat × Nat)) : ∀ (ps ps' : List (Nat × Value)) (cs cs' c : Array Value), ps.map (·.1) = ps'.map (·.1) → RelL ι (ps.map (·.2)) (ps'.map (·.2)) → (∀ p ∈ ps, isTup p.2 = false) → RelL ι cs.toList cs'.toList → (∀ x ∈ cs.toList, x.oneCell' = true) →
    Instr.fill place cs ps = some c → ∃ c', Instr.fill place cs' ps' = some c' ∧ RelL ι c.toList c'.toList ∧ ∀ x ∈ c.toList, x.oneCell' = true
  | [], [], cs, cs', c, _, _, _, h, h1, hf => by
    simp only [Instr.fill, Option.some.injEq] at hf; subst hf
    exact ⟨cs', by simp [Instr.fill], h, h1⟩
  | [], _ :: _, _, _, _, he, _, _, _, _, _ => by simp at he
  | _ :: _, [], _, _, _, he, _, _, _, _, _ => by simp at he
  | (i, v) :: ps, (i', v') :: ps', cs, cs', c, he, hr, ht, h, h1, hf => by
    simp only [List.map_cons, List.cons.injEq] at he
    obtain ⟨rfl, he⟩ := he
    have hv : RelV ι v v' := hr.head
    have hc := RelL.cells hv
    have hflat := hv.flat (ht (i, v) (by simp))
    have hsz : v.cells.size = v'.cells.size := by have := hc.1; simpa using this
    have hcs : cs.size = cs'.size := by have := h.1; simpa using this
    simp only [Instr.fill] at hf ⊢
    cases hp : place i with
    | none => rw [hp] at hf; cases hf
    | some os =>
      obtain ⟨off, size⟩ := os
      rw [hp] at hf
      simp only at hf ⊢
      rw [← hsz, ← hcs]
      split at hf
      · cases hf
      · rename_i hcond
        rw [if_neg hcond]
        have := foldl_rel (ι := ι) off v.cells.toList v'.cells.toList 0 cs cs' hc hflat h h1
        have hfold : ∀ (a c : Array Value), a.zipIdx.foldl (fun cs (x : Value × Nat) => match x with | (c, j) => cs.setIfInBounds (off + j) c) c = a.toList.zipIdx.foldl (fun cs (p : Value × Nat) => cs.setIfInBounds (off + p.2) p.1) c := fun a c => by
          rw [← Array.foldl_toList, Array.toList_zipIdx]
        refine fill_rel place ps ps' _ _ c he hr.tail (fun p hp => ht p (by simp [hp])) ?_ ?_ hf
        · rw [hfold, hfold]; exact this.1
        · rw [hfold]; exact this.2

theorem noTup {ps : List (Nat × Value)} (h : ¬ (ps.any (fun p => isTup p.2)) = true) : ∀ p ∈ ps, isTup p.2 = false := fun p hp => by
  simp only [List.any_eq_true, not_exists, not_and, Bool.not_eq_true] at h
  exact h p hp

theorem places_run : ∀ {fs : List Field} {pl : List (Nat × Nat)}, placesOf P fs = some pl → ∀ w, ((fs.mapM fun f => do pure (f.offset, ← sizeOf f.type)) : Sem (List (Nat × Nat))).run P w = .ok pl w
  | [], pl, h, w => by simp only [placesOf, Option.some.injEq] at h; subst h; rfl
  | f :: fs, pl, h, w => by
    simp only [placesOf] at h
    split at h
    · rename_i s r hs hr
      cases h
      obtain ⟨ti, hti, hti'⟩ := Option.map_eq_some_iff.1 hs
      have ih := places_run hr w
      have h1 : ((do pure (f.offset, ← sizeOf f.type)) : Sem (Nat × Nat)).run P w = .ok (f.offset, s) w := by simp [sizeOf, typeInfo, hti, hti']
      rw [List.mapM_cons, Sem.run_bind, h1]
      simp only [Result.andThen_ok, Sem.run_bind, ih, Sem.run_pure]
    · cases h

theorem good_build {o : Oper} {q : AOp} {v : Value} {t : TypeId} {ps : Array (Nat × Operand)} (ho : o.op = .build t ps) (hm : Opds ι m ρ ρc) (hH : RelH P w0 ι H w) (hc : cop P m (.build t ps) = some q) (ha : aop q ρ H = some (v, H')) :
    Good P w0 ι H w ((execOp ρc o).run P w) v H' := by
  simp only [cop] at hc
  split at hc
  · rename_i fs zs qs hfs hz hq
    obtain ⟨pl, hpl, rfl⟩ := Option.map_eq_some_iff.1 hc
    obtain ⟨ti, z, hti, hz', rfl, hsz, hok⟩ := zeroCs_eq hz
    have hs' : P.underlying t = some (.struct fs) := by
      unfold structT at hfs; split at hfs
      · cases hfs; assumption
      · cases hfs
    simp only [aop] at ha
    split at ha
    · rename_i us hus
      obtain ⟨he, hr⟩ := evp_rel hm hq hus
      split at ha
      · cases ha
      · rename_i hnt
        split at ha
        · rename_i c hfill
          cases ha
          obtain ⟨c', hf', hrc, h1⟩ := fill_rel (ι := ι) (fun i => pl[i]?) us (ps.toList.map fun p => (p.1, ρc p.2)) _ z.cells c (by rw [List.map_map]; exact he) (by rw [List.map_map]; exact hr) (noTup hnt) (const_rel hok) (fun x hx => constOk_one (hok x hx)) hfill
          refine .pure hH (v' := .agg c') ?_ (RelV.agg h1 (by have := hrc.1; simpa using this) (fun j x y hx hy => hrc.2 j x y (by simpa using hx) (by simpa using hy)))
          have hpr := places_run (P := P) hpl w
          have hpr2 : ((fs.mapM fun f => do pure (f.offset, ← sizeOf f.type)) : Sem (Array (Nat × Nat))).run P w = .ok pl.toArray w := by
            rw [Array.mapM_eq_mapM_toList, Sem.run_map, hpr]; rfl
          simp only [execOp, ho, Instr.build, zeroValue, typeInfo]
          simp only [Sem.run_bind, run_program, Result.andThen_ok, hti, Sem.run_pure, hz', run_underlying hs', hpr2]
          have hf2 : Instr.fill (fun x => pl.toArray[x]?) z.cells (ps.map fun p => (p.1, ρc p.2)).toList = some c' := by
            simpa using hf'
          simp only [hf2]
          rfl
        · cases ha
    · cases ha
  · cases hc

theorem new_mksl {o : Oper} {q : AOp} {v : Value} {t : TypeId} {len : Nat} {ps : Array (Nat × Operand)} (ho : o.op = .buildSlice t len ps) (hm : Opds ι m ρ ρc) (hc : cop P m (.buildSlice t len ps) = some q) (ha : aop q ρ H = some (v, H')) :
    ∃ vs ty, H' = H.alloc (.cells vs ty) ∧ NewC P ι H.n w ((execOp ρc o).run P w) v vs ty := by
  simp only [cop] at hc
  split at hc
  · rename_i e qs hes hq
    split at hc
    · rename_i zs sz hz hszq
      split at hc
      · rename_i hcond
        obtain ⟨hbig, hpos⟩ := hcond
        cases hc
        obtain ⟨ti, z, hti, hz', rfl, hsz, hok⟩ := zeroCs_eq hz
        obtain ⟨ti2, hti2, hti2'⟩ := Option.map_eq_some_iff.1 hszq
        rw [hti] at hti2; cases hti2
        have hs' : P.underlying t = some (.slice e) := by
          unfold sliceT at hes; split at hes
          · cases hes; assumption
          · cases hes
        simp only [aop] at ha
        split at ha
        · rename_i us hus
          obtain ⟨he, hr⟩ := evp_rel hm hq hus
          split at ha
          · cases ha
          · rename_i hnt
            split at ha
            · rename_i c hfill
              cases ha
              have hzs : (mkZs z.cells.toList (len * sz)).toArray = (Array.range (len * sz)).map (z.cells[· % z.cells.size]!) := by simp only [mkZs, Array.toArray_toList]
              have hmem : ∀ u ∈ mkZs z.cells.toList (len * sz), constOk u = true := fun u hu => by
                have hu' : u ∈ ((Array.range (len * sz)).map (z.cells[· % z.cells.size]!)).toList := by rw [← hzs]; simpa using hu
                simp only [Array.toList_map, List.mem_map] at hu'
                obtain ⟨j, _, rfl⟩ := hu'
                have hlt : j % z.cells.size < z.cells.size := Nat.mod_lt _ (by omega)
                rw [getElem!_pos z.cells _ hlt]
                exact hok _ (by simp)
              obtain ⟨c', hf', hrc, h1⟩ := fill_rel (ι := ι) (fun i => some (i * sz, sz)) us (ps.toList.map fun p => (p.1, ρc p.2)) _ ((Array.range (len * sz)).map (z.cells[· % z.cells.size]!)) c (by rw [List.map_map]; exact he) (by rw [List.map_map]; exact hr) (noTup hnt)
                (by rw [← hzs]; simpa using const_rel hmem) (fun x hx => constOk_one (hmem x (by simpa using hx))) hfill
              have hc'sz : c'.size = len * sz := by
                have : ∀ (place : Nat → Option (Nat × Nat)) (ps : List (Nat × Value)) (cs c : Array Value), Instr.fill place cs ps = some c → c.size = cs.size := by
                  intro place ps
                  induction ps with
                  | nil => intro cs c h; simp only [Instr.fill, Option.some.injEq] at h; rw [h]
                  | cons p ps ih =>
                    intro cs c h
                    obtain ⟨i, v⟩ := p
                    simp only [Instr.fill] at h
                    split at h
                    · cases h
                    · split at h
                      · cases h
                      · rw [ih _ _ h]
                        have : ∀ (l : List (Value × Nat)) (cs : Array Value) (off : Nat), (l.foldl (fun cs (p : Value × Nat) => cs.setIfInBounds (off + p.2) p.1) cs).size = cs.size := by
                          intro l
                          induction l with
                          | nil => intros; rfl
                          | cons p l ih => intro cs off; rw [List.foldl_cons, ih]; simp
                        rw [← Array.foldl_toList]; exact this _ _ _
                have := this _ _ _ _ hf'
                simpa using this
              have hcz : P.cellsOf e = sz := by simp [Program.cellsOf, hti, hti2']
              let i : BI := ⟨w.heap.size, 0, P.cellsOf e, c'.size, false⟩
              refine ⟨_, _, rfl, NewC.of (cs := c') (i := i) (v' := .slice (some ⟨w.heap.size, 0, none⟩) len len) rfl rfl rfl rfl rfl h1 hrc ?_ ?_⟩
              · have hnb : ¬ (16777216 < len * sz) := by omega
                have hf2 : Instr.fill (fun i => some (i * sz, sz)) ((Array.range (len * sz)).map (z.cells[· % z.cells.size]!)) (ps.map fun p => (p.1, ρc p.2)).toList = some c' := by simpa using hf'
                have hsz' : ti.size = sz := hti2'
                by_cases hzero : len * sz = 0
                · have hz0 : (Array.range (len * sz)).map (z.cells[· % z.cells.size]!) = #[] := by rw [hzero]; simp [Array.range_zero']
                  rw [hz0] at hf2
                  simp [execOp, ho, Instr.buildSlice, run_underlying hs', sizeOf, typeInfo, hti, hsz', hnb, hzero, Array.range_zero']
                  simp at hf2
                  simp [hf2, newRow]
                · simp only [execOp, ho, Instr.buildSlice, sizeOf, zeroValue, typeInfo]
                  simp only [Sem.run_bind, run_program, Result.andThen_ok, hti, Sem.run_pure, hz', run_underlying hs', hsz']
                  simp [hnb, hzero, hti, hz']
                  simp at hf2
                  simp [hf2, newRow]
              · refine RelV.slice (b := H.n) (off := 0) (i := i) (Inj.put_self _ _ _) (Nat.le_refl _) (.inr ?_) (.inr rfl)
                show 0 + len * P.cellsOf e ≤ c'.size
                rw [hcz]; omega
            · cases ha
        · cases ha
      · cases hc
    · cases hc
  · cases hc

theorem good_mksl {o : Oper} {q : AOp} {v : Value} {t : TypeId} {len : Nat} {ps : Array (Nat × Operand)} (ho : o.op = .buildSlice t len ps) (hm : Opds ι m ρ ρc) (hH : RelH P w0 ι H w) (hc : cop P m (.buildSlice t len ps) = some q) (ha : aop q ρ H = some (v, H')) :
    Good P w0 ι H w ((execOp ρc o).run P w) v H' := by
  obtain ⟨_, _, rfl, h⟩ := new_mksl (ι := ι) (w := w) (ρc := ρc) ho hm hc ha
  exact h.good hH

end Go.AB
