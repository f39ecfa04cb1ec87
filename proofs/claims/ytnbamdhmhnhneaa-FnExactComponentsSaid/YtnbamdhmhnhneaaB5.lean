/- Own framework, part 5: the operations that read, write and make memory. -/
import Derived.Test.YtnbamdhmhnhneaaB4
set_option linter.unusedVariables false
set_option linter.unusedSimpArgs false
namespace Go.AB
open Go.RowKit
variable {P : Program} {w0 w : World} {ι : Inj} {H H' : AHeap} {m : Operand → Option AOpd} {ρ : AOpd → Option Value} {ρc : Operand → Value}

/-- A cell of an object, read in the world. -/
theorem cell_rel (hH : RelH P w0 ι H w) {b : Nat} {i : BI} {vs : List Value} (hb : ι b = some i) (hc : cellsAt H b = some vs) {j : Nat} {x : Value} (hx : vs[j]? = some x) :
    x.oneCell' = true ∧ ∃ y, w.cell? ⟨i.cb, i.d + j, none⟩ = some y ∧ RelV ι x y := by
  have ho := hH.obj b i hb
  unfold cellsAt at hc
  split at hc
  · rename_i ws ty he
    cases hc
    rw [he] at ho
    obtain ⟨_, _, _, cs, fr, hh, _, _, _, hv⟩ := ho
    obtain ⟨o1, y, hy, r⟩ := hv j x hx
    exact ⟨o1, y, by rw [cell_of_block hh]; exact hy, r⟩
  · rename_i ws he
    cases hc
    rw [he] at ho
    obtain ⟨hlt, _, hv⟩ := ho
    obtain ⟨o1, y, hy, r⟩ := hv j x hx
    have hlt := hlt.resolve_left (by rintro rfl; simp at hx)
    exact ⟨o1, y, by rw [hH.old.cell (p := ⟨i.cb, i.d + j, none⟩) hlt]; exact hy, r⟩
  · cases hc

theorem seg_eq {vs ws : List Value} {off n : Nat} (h : seg vs off n = some ws) : off + n ≤ vs.length ∧ ws = (vs.drop off).take n ∧ ws.length = n := by
  unfold seg at h
  split at h
  · rename_i hl
    cases h
    exact ⟨hl, rfl, by simp; omega⟩
  · cases h

/-- A run of cells, read in the world. -/
theorem cells_rel (hH : RelH P w0 ι H w) {b : Nat} {i : BI} {vs ws : List Value} (hb : ι b = some i) (hc : cellsAt H b = some vs) {off n : Nat} (hs : seg vs off n = some ws) :
    (∀ x ∈ ws, x.oneCell' = true) ∧ ∃ ys, RelL ι ws ys ∧ ∀ j y, ys[j]? = some y → w.cell? ⟨i.cb, off + i.d + j, none⟩ = some y := by
  obtain ⟨hl, rfl, hn⟩ := seg_eq hs
  have key : ∀ j, j < n → ∃ x, vs[off + j]? = some x ∧ x.oneCell' = true ∧ ∃ y, w.cell? ⟨i.cb, off + i.d + j, none⟩ = some y ∧ RelV ι x y := fun j hj => by
    have hx : vs[off + j]? = some vs[off + j] := List.getElem?_eq_getElem (by omega)
    obtain ⟨o1, y, hy, r⟩ := cell_rel hH hb hc hx
    exact ⟨_, hx, o1, y, by rw [show off + i.d + j = i.d + (off + j) by omega]; exact hy, r⟩
  have hget : ∀ j x, ((vs.drop off).take n)[j]? = some x → j < n ∧ vs[off + j]? = some x := fun j x hx => by
    rw [List.getElem?_take] at hx
    split at hx
    · rename_i hj
      rw [List.getElem?_drop] at hx
      exact ⟨hj, hx⟩
    · cases hx
  refine ⟨fun x hx => ?_, (List.range n).map (fun j => (w.cell? ⟨i.cb, off + i.d + j, none⟩).getD undef), ⟨by simp; omega, fun j x y hx hy => ?_⟩, fun j y hy => ?_⟩
  · obtain ⟨j, hj⟩ := List.mem_iff_getElem?.1 hx
    obtain ⟨h1, h2⟩ := hget j x hj
    obtain ⟨x', hx', o1, _⟩ := key j h1
    rw [h2] at hx'; cases hx'; exact o1
  · obtain ⟨h1, h2⟩ := hget j x hx
    obtain ⟨x', hx', _, y', hy', r⟩ := key j h1
    rw [h2] at hx'; cases hx'
    rw [List.getElem?_map, List.getElem?_range h1] at hy
    simp only [Option.map_some, hy', Option.getD_some, Option.some.injEq] at hy
    subst hy; exact r
  · have hj : j < n := by
      have := (List.getElem?_eq_some_iff.1 hy).1
      simpa using this
    obtain ⟨x', hx', _, y', hy', r⟩ := key j hj
    rw [List.getElem?_map, List.getElem?_range hj] at hy
    simp only [Option.map_some, hy', Option.getD_some, Option.some.injEq] at hy
    subst hy; exact hy'

theorem good_load {o : Oper} {q : AOp} {v : Value} {t : TypeId} {x : Operand} (ho : o.op = .load t x) (hm : Opds ι m ρ ρc) (hH : RelH P w0 ι H w) (hc : cop P m (.load t x) = some q) (ha : aop q ρ H = some (v, H')) :
    Good P w0 ι H w ((execOp ρc o).run P w) v H' := by
  simp only [cop] at hc
  split at hc
  · rename_i n x' hag hsz hx
    cases hc
    simp only [aop] at ha
    split at ha
    · rename_i a e1
      have r1 := hm _ _ _ hx e1
      split at ha
      · rename_i vs hvs
        split at ha
        · rename_i ws hws
          cases ha
          generalize hcx : ρc x = cx at r1
          cases r1 with
          | ptr hb =>
            rename_i b off i
            obtain ⟨o1, ys, hr, hcell⟩ := cells_rel hH hb hvs hws
            have hn := (seg_eq hws).2.2
            have hlen : ys.length = n := by rw [← hr.1]; exact hn
            obtain ⟨ti, hti, hti'⟩ := Option.map_eq_some_iff.1 hsz
            have hld := run_loadCells_list (P := P) w ⟨i.cb, off + i.d, none⟩ ys (fun j y hj => by rw [Addr.add_lit]; exact hcell j y hj)
            rw [hlen] at hld
            have hagg : (isAgg t).run P w = .ok true w := by
              unfold aggB at hag
              split at hag
              · rename_i fs hu; simp [isAgg, run_underlying hu]
              · rename_i k e hu; simp [isAgg, run_underlying hu]
              · cases hag
              · cases hag
            refine .pure hH (v' := .agg ys.toArray) ?_ (RelV.agg_list o1 hr)
            simp only [execOp, ho, hcx, Instr.loadAt, Instr.sureAddr, loadVar, sizeOf, typeInfo]
            simp [hagg, hti, hti', hld]
        · cases ha
      · cases ha
    · cases ha
  · rename_i n x' hag hsz hx
    cases hc
    simp only [aop] at ha
    split at ha
    · rename_i a e1
      have r1 := hm _ _ _ hx e1
      split at ha
      · rename_i vs hvs
        split at ha
        · rename_i u hu
          cases ha
          generalize hcx : ρc x = cx at r1
          cases r1 with
          | ptr hb =>
            rename_i b off i
            obtain ⟨o1, y, hy, r⟩ := cell_rel hH hb hvs hu
            have hagg : (isAgg t).run P w = .ok false w := by
              unfold aggB at hag
              split at hag
              · cases hag
              · cases hag
              · rename_i d hn1 hn2 hu
                cases d <;> first
                  | (exact (hn1 _ rfl).elim)
                  | (exact (hn2 _ _ rfl).elim)
                  | (simp [isAgg, run_underlying hu])
              · cases hag
            refine .pure hH (v' := y) ?_ r
            rw [Nat.add_comm] at hy
            simp only [execOp, ho, hcx, Instr.loadAt, Instr.sureAddr, loadVar]
            simp [hagg, hy]
        · cases ha
      · cases ha
    · cases ha
  · cases hc

theorem run_storeVar {t : TypeId} {ti : TypeInfo} (hti : P.info? t = some ti) {b off : Nat} {cs : Array Value} {ty : TypeId} {fr : Nat × Nat} (hh : w.heap[b]? = some (.cells cs ty fr)) (hu : Unshut fr cs.size) {v : Value} (hn : v.cells.size = ti.size)
    (hl : off + v.cells.size ≤ cs.size) (h1 : ∀ u ∈ v.cells.toList, u.oneCell' = true) : (storeVar t ⟨b, off, none⟩ v).run P w = .ok () (w.setCells b off v.cells.toList) := by
  have := run_storeCells_cells (P := P) b off v.cells.toList 0 w (fun j hj => by
    rw [cell_of_block hh]
    have h2 : off + 0 + j < cs.size := by simp at hj; omega
    rw [Array.getElem?_eq_getElem h2]; rfl) (fun j hj => frozen_of_block hh hu (by simp at hj; omega)) h1
  simp only [storeVar, sizeOf, typeInfo]
  simp [hti, hn]
  simpa using this

theorem good_store {o : Oper} {q : AOp} {v : Value} {t : TypeId} {x y : Operand} (ho : o.op = .store t x y) (hm : Opds ι m ρ ρc) (hH : RelH P w0 ι H w) (hc : cop P m (.store t x y) = some q) (ha : aop q ρ H = some (v, H')) :
    Good P w0 ι H w ((execOp ρc o).run P w) v H' := by
  simp only [cop] at hc
  split at hc
  · rename_i n x' y' hsz hx hy
    cases hc
    simp only [aop] at ha
    split at ha
    · rename_i a u e1 e2
      have r1 := hm _ _ _ hx e1
      have r2 := hm _ _ _ hy e2
      split at ha
      · rename_i vs ty hg
        split at ha
        · rename_i hcond
          obtain ⟨h1, h2, h3⟩ := hcond
          cases ha
          generalize hcx : ρc x = cx at r1
          cases r1 with
          | ptr hb =>
            rename_i b off i
            obtain ⟨ti, hti, hti'⟩ := Option.map_eq_some_iff.1 hsz
            have rc := RelL.cells r2
            have hone := r2.flat h1
            have hob := hH.obj b i hb
            simp only at hg h3
            rw [hg] at hob
            obtain ⟨hbase, hro, hesz, cs, fr, hh, hu, hs, hld, hv⟩ := hob
            have hlen := rc.1
            have hone' : ∀ z ∈ (ρc y).cells.toList, z.oneCell' = true := fun z hz => by
              obtain ⟨j, hj⟩ := List.mem_iff_getElem?.1 hz
              have hjl : j < u.cells.toList.length := by
                have := (List.getElem?_eq_some_iff.1 hj).1; omega
              exact (rc.2 j _ z (List.getElem?_eq_getElem hjl) hj).one (hone _ (List.getElem_mem hjl))
            have hrun := run_storeVar (P := P) hti hh hu (off := off + i.d) (v := ρc y) (by simp at hlen h2; omega) (by simp at hlen h2; omega) hone'
            obtain ⟨hR, hF⟩ := hH.write hb hg off rc hone (by omega)
            refine ⟨ι, _, undef, .inr ⟨?_, rfl⟩, hR, .tuple rfl (fun j a b h => by simp at h), hF⟩
            simp only [execOp, ho, hcx, Instr.storeAt, Instr.sureAddr]
            simp [hrun]
        · cases ha
      · cases ha
    · cases ha
  · cases hc

theorem good_nilck {o : Oper} {q : AOp} {v : Value} {x : Operand} (ho : o.op = .nilCheck x) (hm : Opds ι m ρ ρc) (hH : RelH P w0 ι H w) (hc : cop P m (.nilCheck x) = some q) (ha : aop q ρ H = some (v, H')) :
    Good P w0 ι H w ((execOp ρc o).run P w) v H' := by
  obtain ⟨y, hy, rfl⟩ := Option.map_eq_some_iff.1 hc
  simp only [aop] at ha
  split at ha
  · rename_i a e1
    have r1 := hm _ _ _ hy e1
    cases ha
    generalize hcx : ρc x = cx at r1
    have r2 := r1
    cases r1 with
    | ptr hb => exact .pure hH (v' := _) (by simp [execOp, ho, hcx]) r2
  · rename_i n fs cs e1
    have r1 := hm _ _ _ hy e1
    cases ha
    generalize hcx : ρc x = cx at r1
    have r2 := r1
    cases r1 with
    | func a b c d => exact .pure hH (v' := _) (by simp [execOp, ho, hcx]) r2
  · cases ha

theorem good_fld {o : Oper} {q : AOp} {v : Value} {s : TypeId} {f : Nat} {x : Operand} (ho : o.op = .field s x f) (hm : Opds ι m ρ ρc) (hH : RelH P w0 ι H w) (hc : cop P m (.field s x f) = some q) (ha : aop q ρ H = some (v, H')) :
    Good P w0 ι H w ((execOp ρc o).run P w) v H' := by
  simp only [cop] at hc
  split at hc
  · rename_i fs x' hfs hx
    have hs' : P.underlying s = some (.struct fs) := by
      unfold structT at hfs; split at hfs
      · cases hfs; assumption
      · cases hfs
    split at hc
    · rename_i fd hfd
      split at hc
      · rename_i n hag hsz
        cases hc
        simp only [aop] at ha
        split at ha
        · rename_i cs e1
          have r1 := hm _ _ _ hx e1
          split at ha
          · rename_i hl
            cases ha
            generalize hcx : ρc x = cx at r1
            cases r1 with
            | agg h1 h2 h4 =>
              rename_i c2
              obtain ⟨ti, hti, hti'⟩ := Option.map_eq_some_iff.1 hsz
              have hagg : (isAgg fd.type).run P w = .ok true w := by
                unfold aggB at hag
                split at hag
                · rename_i fs hu; simp [isAgg, run_underlying hu]
                · rename_i k e hu; simp [isAgg, run_underlying hu]
                · cases hag
                · cases hag
              refine .pure hH (v' := .agg (c2.extract fd.offset (fd.offset + n))) ?_ (.agg (fun z hz => h1 z ?_) (by simp; omega) (fun j a b ha' hb' => ?_))
              · simp only [execOp, ho, hcx, Instr.field, part, sizeOf, typeInfo]
                simp [run_underlying hs', hfd, asAgg, hagg, hti, hti']
              · rw [Array.toList_extract] at hz
                exact List.mem_of_mem_drop (List.mem_of_mem_take hz)
              · rw [Array.getElem?_extract] at ha' hb'
                split at ha'
                · split at hb'
                  · exact h4 _ _ _ ha' hb'
                  · cases hb'
                · cases ha'
          · cases ha
        · cases ha
      · rename_i n hag hsz
        cases hc
        simp only [aop] at ha
        split at ha
        · rename_i cs e1
          have r1 := hm _ _ _ hx e1
          split at ha
          · rename_i u hu
            cases ha
            generalize hcx : ρc x = cx at r1
            cases r1 with
            | agg h1 h2 h4 =>
              rename_i c2
              have hagg : (isAgg fd.type).run P w = .ok false w := by
                unfold aggB at hag
                split at hag
                · cases hag
                · cases hag
                · rename_i d hn1 hn2 hu
                  cases d <;> first
                    | (exact (hn1 _ rfl).elim)
                    | (exact (hn2 _ _ rfl).elim)
                    | (simp [isAgg, run_underlying hu])
                · cases hag
              have hj : fd.offset < c2.size := by have := (Array.getElem?_eq_some_iff.1 hu).1; omega
              refine .pure hH (v' := c2[fd.offset]) ?_ (h4 _ _ _ hu (Array.getElem?_eq_getElem hj))
              simp only [execOp, ho, hcx, Instr.field, part]
              simp [run_underlying hs', hfd, asAgg, hagg, Array.getElem?_eq_getElem hj]
          · cases ha
        · cases ha
      · cases hc
    · cases hc
  · cases hc

/-! ### What makes memory -/
theorem zeroCs_eq {t : TypeId} {zs : List Value} (h : zeroCs P t = some zs) : ∃ ti z, P.info? t = some ti ∧ ti.zero = some z ∧ zs = z.cells.toList ∧ z.cells.size = ti.size ∧ ∀ u ∈ zs, constOk u = true := by
  unfold zeroCs at h
  split at h
  · rename_i ti hti
    split at h
    · rename_i z hz
      split at h
      · rename_i hc
        cases h
        simp only [Bool.and_eq_true, List.all_eq_true, decide_eq_true_eq] at hc
        exact ⟨ti, z, hti, hz, rfl, hc.2, hc.1⟩
      · cases h
    · cases h
  · cases h
theorem const_rel {zs : List Value} (h : ∀ u ∈ zs, constOk u = true) : RelL ι zs zs := ⟨rfl, fun j x y hx hy => by rw [hx] at hy; cases hy; exact constOk_rel (h x (List.mem_of_getElem? hx))⟩
theorem constOk_one : ∀ {c : Value}, constOk c = true → c.oneCell' = true := fun {c} h => by cases c <;> first | rfl | (simp [constOk] at h)

theorem new_alloc {o : Oper} {q : AOp} {v : Value} {t : TypeId} (ho : o.op = .alloc t) (hc : cop P m (.alloc t) = some q) (ha : aop q ρ H = some (v, H')) :
    ∃ vs ty, H' = H.alloc (.cells vs ty) ∧ NewC P ι H.n w ((execOp ρc o).run P w) v vs ty := by
  obtain ⟨zs, hz, rfl⟩ := Option.map_eq_some_iff.1 hc
  obtain ⟨ti, z, hti, hz', rfl, hsz, hok⟩ := zeroCs_eq hz
  simp only [aop] at ha
  cases ha
  refine ⟨_, _, rfl, NewC.of (cs := z.cells) (i := ⟨w.heap.size, 0, P.cellsOf t, z.cells.size, false⟩) (v' := .pointer (some ⟨w.heap.size, 0, none⟩)) rfl rfl rfl rfl rfl (fun x hx => constOk_one (hok x hx)) (const_rel hok) ?_ ?_⟩
  · simp only [execOp, ho, Instr.alloc, zeroValue, typeInfo]
    simp [hti, hz', newVar, newRow]
  · exact RelV.ptr (b := H.n) (off := 0) (i := ⟨w.heap.size, 0, P.cellsOf t, z.cells.size, false⟩) (Inj.put_self _ _ _)

theorem good_alloc {o : Oper} {q : AOp} {v : Value} {t : TypeId} (ho : o.op = .alloc t) (hH : RelH P w0 ι H w) (hc : cop P m (.alloc t) = some q) (ha : aop q ρ H = some (v, H')) :
    Good P w0 ι H w ((execOp ρc o).run P w) v H' := by
  obtain ⟨_, _, rfl, h⟩ := new_alloc (ι := ι) (w := w) (ρc := ρc) ho hc ha
  exact h.good hH

theorem new_box {o : Oper} {q : AOp} {v : Value} {t : TypeId} {x : Operand} (ho : o.op = .box t x) (hm : Opds ι m ρ ρc) (hc : cop P m (.box t x) = some q) (ha : aop q ρ H = some (v, H')) :
    ∃ vs ty, H' = H.alloc (.cells vs ty) ∧ NewC P ι H.n w ((execOp ρc o).run P w) v vs ty := by
  obtain ⟨y, hy, rfl⟩ := Option.map_eq_some_iff.1 hc
  simp only [aop] at ha
  split at ha
  · rename_i u e1
    have r1 := hm _ _ _ hy e1
    split at ha
    · cases ha
    · rename_i ht
      cases ha
      refine ⟨_, _, rfl, NewC.of (cs := (ρc x).cells) (i := ⟨w.heap.size, 0, P.cellsOf t, (ρc x).cells.size, false⟩) (v' := .pointer (some ⟨w.heap.size, 0, none⟩)) rfl rfl rfl rfl rfl (r1.flat (by simpa using ht)) (RelL.cells r1) ?_ ?_⟩
      · simp [execOp, ho, Instr.box, newVar, newRow]
      · exact RelV.ptr (b := H.n) (off := 0) (i := ⟨w.heap.size, 0, P.cellsOf t, (ρc x).cells.size, false⟩) (Inj.put_self _ _ _)
  · cases ha

theorem good_box {o : Oper} {q : AOp} {v : Value} {t : TypeId} {x : Operand} (ho : o.op = .box t x) (hm : Opds ι m ρ ρc) (hH : RelH P w0 ι H w) (hc : cop P m (.box t x) = some q) (ha : aop q ρ H = some (v, H')) :
    Good P w0 ι H w ((execOp ρc o).run P w) v H' := by
  obtain ⟨_, _, rfl, h⟩ := new_box (ι := ι) (w := w) (ρc := ρc) ho hm hc ha
  exact h.good hH

end Go.AB
