/- Own framework: copy. -/
import Derived.Test.YtnbamdhmhnhneaaB7
set_option linter.unusedVariables false
set_option linter.unusedSimpArgs false
namespace Go.AB
open Go.RowKit
variable {P : Program} {w0 w : World} {ι : Inj} {H H' : AHeap} {m : Operand → Option AOpd} {ρ : AOpd → Option Value} {ρc : Operand → Value}

theorem elems_pre (hH : RelH P w0 ι H w) {sz n c : Nat} {b : Option Addr} {x : Value} {ys : List Value} (he : elems H sz (.slice b n c) = some ys) (hr : RelV ι (.slice b n c) x) :
    (∀ u ∈ ys, u.oneCell' = true) ∧ ys.length = n * sz ∧ ∃ zs, RelL ι ys zs ∧ (∀ z ∈ zs, z.oneCell' = true) ∧ (Builtin.lenOf x).run P w = .ok n w ∧ ∀ k, k ≤ n → (Builtin.firstCells sz k x).run P w = .ok (zs.take (k * sz)).toArray w := by
  generalize hxx : Value.slice b n c = xx at hr
  cases hr <;> try (cases hxx; done)
  · cases hxx
    simp only [elems, Option.some.injEq] at he
    subst he
    exact ⟨fun u hu => (by cases hu), (by simp), [], RelL.nil, fun z hz => (by cases hz), rfl, fun k hk => by simp [Builtin.firstCells]⟩
  · rename_i b' off off' len cap cap' i hb hl hroom hoff
    cases hxx
    simp only [elems] at he
    split at he
    · rename_i vs hvs
      obtain ⟨o1, zs, hrl, hcell⟩ := cells_rel hH hb hvs he
      have hyl := (seg_eq he).2.2
      have hzl : zs.length = n * sz := by rw [← hrl.1]; exact hyl
      have hone : ∀ z ∈ zs, z.oneCell' = true := fun z hz => by
        obtain ⟨j, hj⟩ := List.mem_iff_getElem?.1 hz
        have hjl : j < ys.length := by have := (List.getElem?_eq_some_iff.1 hj).1; rw [hrl.1]; exact this
        exact (hrl.2 j _ z (List.getElem?_eq_getElem hjl) hj).one (o1 _ (List.getElem_mem hjl))
      refine ⟨o1, hyl, zs, hrl, hone, rfl, fun k hk => ?_⟩
      have hks : k * sz ≤ n * sz := Nat.mul_le_mul_right _ hk
      have := run_loadCells_list (P := P) w ⟨i.cb, off', none⟩ (zs.take (k * sz)) (fun j u hu => by
        rw [List.getElem?_take] at hu
        split at hu
        · rename_i hjk
          have hn0 : n ≠ 0 := fun h => by rw [h] at hks; simp at hks; omega
          have ho : off' = off + i.d := by omega
          rw [Addr.add_lit, ho]
          exact hcell j u hu
        · cases hu)
      have hl2 : (zs.take (k * sz)).length = k * sz := by simp; omega
      rw [hl2] at this
      simpa [Builtin.firstCells] using this
    · cases he
  · rename_i a i _ _
    cases hxx
    have hys : ys = [] := by
      simp only [elems] at he
      split at he
      · have := (seg_eq he).2.2; simpa using this
      · cases he
    subst hys
    refine ⟨fun u hu => (by cases hu), (by simp), [], RelL.nil, fun z hz => (by cases hz), rfl, fun k hk => ?_⟩
    have hk0 : k = 0 := by omega
    subst hk0
    have := run_loadCells_list (P := P) w a [] (fun j u hu => by simp at hu)
    simpa [Builtin.firstCells] using this

theorem good_copy {o : Oper} {q : AOp} {v : Value} {c : Call} (ho : o.op = .call c) {t u : TypeId} {x y : Operand} (hb : c.callee = .builtin .copy) (ht : c.argTypes.toList = [t, u]) (hx : c.args.toList = [x, y]) (hm : Opds ι m ρ ρc) (hH : RelH P w0 ι H w) (hc : cop P m (.call c) = some q) (ha : aop q ρ H = some (v, H')) :
    Good P w0 ι H w ((execOp ρc o).run P w) v H' := by
  simp only [cop, hb, ht, hx] at hc
  split at hc
  · rename_i e e2 x' y' hes hes2 hx' hy'
    split at hc
    · rename_i sz hsz
      cases hc
      simp only [aop] at ha
      split at ha
      · rename_i a b e1 e2'
        have r1 := hm _ _ _ hx' e1
        have r2 := hm _ _ _ hy' e2'
        obtain ⟨ti, hti, hti'⟩ := Option.map_eq_some_iff.1 hsz
        have ht' : c.argTypes = #[t, u] := by apply Array.ext'; simpa using ht
        have hx2 : c.args = #[x, y] := by apply Array.ext'; simpa using hx
        have hrun : ∀ r w', (Builtin.copy_ #[t, u] o.type #[ρc x, ρc y]).run P w = .ok r w' → (execOp ρc o).run P w = .ok (.value r) w' := fun r w' h => by
          simp [execOp, ho, resolve, hb, ht', hx2, invoke, builtin, h]
        unfold copyV at ha
        split at ha
        · rename_i a b ys bs n cap hys
          obtain ⟨o1, hyl, zs, hrl, hone, hlen, hpre⟩ := elems_pre (P := P) hH hys r2
          cases ha
          have hcx : ρc x = .slice none 0 0 := by generalize ρc x = cx at r1; cases r1; rfl
          refine .pure hH (v' := goInt 0) (hrun _ _ ?_) (.int _ _)
          have hp := hpre 0 (Nat.zero_le _)
          simp at hp
          simp [Builtin.copy_, run_underlying (sliceT_eq hes), hcx, hlen, sizeOf, typeInfo, hti, hti', hp, Nat.min]
        · rename_i a b _ ad len cap ys bs n cap2 hys
          obtain ⟨o1, hyl, zs, hrl, hone, hlen, hpre⟩ := elems_pre (P := P) hH hys r2
          split at ha
          · rename_i vs ty hg
            split at ha
            · rename_i hfit
              cases ha
              generalize hcx : ρc x = cx at r1
              generalize hsl : Value.slice (some ad) len cap = sl at r1
              cases r1 <;> try (cases hsl; done)
              case sany hb' hro' =>
                cases hsl
                have hob := hH.obj _ _ hb'
                simp only at hg
                rw [hg] at hob
                have := hob.2.1
                rw [hro'] at this; cases this
              rename_i b' off off' len' cap' cap'' i hb' hl hroom hoff
              cases hsl
              have hks : min n len * sz ≤ n * sz := Nat.mul_le_mul_right _ (Nat.min_le_left _ _)
              have hp := hpre (min n len) (Nat.min_le_left _ _)
              have hrt : RelL ι (ys.take (min n len * sz)) (zs.take (min n len * sz)) := hrl.take _
              have hol : ∀ z ∈ ys.take (min n len * sz), z.oneCell' = true := fun z hz => o1 z (List.mem_of_mem_take hz)
              have hyt : (ys.take (min n len * sz)).length = min n len * sz := by simp; omega
              have hzt : (zs.take (min n len * sz)).length = min n len * sz := by rw [← hrt.1]; exact hyt
              simp only at hg hfit
              obtain ⟨hR, hF⟩ := hH.write hb' hg off hrt hol (by omega)
              have hob := hH.obj _ i hb'
              rw [hg] at hob
              obtain ⟨hbase, hro, hesz, cs, fr, hh, hu, hs, hld, hv⟩ := hob
              have hmin : Nat.min n len = min n len := rfl
              by_cases h0 : min n len * sz = 0
              · -- nothing goes over
                rw [h0] at hR hF hp ⊢
                simp only [List.take_zero] at hR hF hp ⊢
                refine ⟨ι, _, goInt (min n len : Nat), .inl (hrun _ _ ?_), hR, .int _ _, hF⟩
                simp [Builtin.copy_, run_underlying (sliceT_eq hes), hcx, hlen, sizeOf, typeInfo, hti, hti', hmin, hp, storeCells, World.setCells]
              · have hl0 : len ≠ 0 := fun h => h0 (by rw [h]; simp)
                have ho' : off' = off + i.d := by omega
                have hst := run_storeCells_cells (P := P) i.cb (off + i.d) (zs.take (min n len * sz)) 0 w (fun j hj => by
                  rw [cell_of_block hh]
                  have h2 : off + i.d + 0 + j < cs.size := by omega
                  rw [Array.getElem?_eq_getElem h2]; rfl) (fun j hj => frozen_of_block hh hu (by omega)) (fun z hz => hone z (List.mem_of_mem_take hz))
                refine ⟨ι, _, goInt (min n len : Nat), .inl (hrun _ _ ?_), hR, .int _ _, hF⟩
                simp only [Nat.add_zero] at hst
                simp [Builtin.copy_, run_underlying (sliceT_eq hes), hcx, hlen, sizeOf, typeInfo, hti, hti', hmin, hp, ho', hst]
            · cases ha
          · cases ha
        · cases ha
      · cases ha
    · cases hc
  · cases hc
end Go.AB
