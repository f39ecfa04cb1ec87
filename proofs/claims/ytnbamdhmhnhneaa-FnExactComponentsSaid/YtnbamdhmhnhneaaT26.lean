/- The walk of components: the visit of a cell. -/
import Derived.Test.YtnbamdhmhnhneaaT25
set_option linter.unusedVariables false
set_option linter.unusedSimpArgs false
set_option maxRecDepth 10000
set_option maxHeartbeats 4000000
namespace Go.AB
open Go.Proofs
variable {w0 : World} {H : AHeap}

theorem inc_len {f : Nat → Int} : ∀ {l : List Nat} {a b : Int}, l.Pairwise (fun u v => f u < f v) → (∀ v ∈ l, a ≤ f v ∧ f v < b) → a ≤ b → (l.length : Int) ≤ b - a
  | [], a, b, _, _, h => by simp; omega
  | v :: l, a, b, hp, hb, h => by
    rw [List.pairwise_cons] at hp
    have h1 := hb v (by simp)
    have := inc_len (l := l) (a := f v + 1) (b := b) hp.2 (fun w hw => ⟨hp.1 w hw, (hb w (by simp [hw])).2⟩) (by omega)
    simp only [List.length_cons]; omega
theorem TS.slen {E : Nat → Nat → Prop} {N : Nat} {g : Nat → Prop} {ix ou : Nat → Int} {stk : List Nat} {nx : Int} (h : TS E N g ix ou stk nx) (hnx : 0 < nx) : (stk.length : Int) < nx := by
  have := inc_len (a := 1) (b := nx) h.inc (fun v hv => ⟨((h.mem v).1 hv).2.1, (h.ixn v ((h.mem v).1 hv).1).2⟩) hnx
  omega
abbrev capt (L : CLay) : List Value := [pt L.kN 0, pt L.kI 0, pt L.kL 0, pt L.kS 0, pt L.kG 0, pt L.kV 0, pt L.kO 0]
theorem visit_able : callable Go.Proofs.Try.prog 28 = true := by kernel_rfl
def VPost (L : CLay) (g : GV) (H0 : AHeap) (es : List E4) (gr : Nat → Prop) (c : Nat) (ix lo ou : List Int) (stk : List Nat) (nx : Int) (v : Value) (G' : AHeap) : Prop :=
  ∃ ix' lo' ou' s2 nx', CF L g H0 G' ix' lo' ou' (stk ++ s2) nx' ∧ TPost (ER es) L.N gr c (fi ix) (fi lo) (fi ou) stk nx (fi ix') (fi lo') (fi ou') s2 nx' ∧ nx' + cnt0 ix' = nx + cnt0 ix
theorem zs_get {l : List Nat} {j : Nat} (h : j < l.length) : (zs l).getD j 0 = (l[j] : Int) := by simp [zs, List.getD_eq_getElem?_getD, h]
theorem getD_at {l : List Int} {a b j : Nat} (h : j < b - a) : ((l.drop a).take (b - a)).getD j 0 = l.getD (a + j) 0 := by
  simp only [List.getD_eq_getElem?_getD]
  rw [List.getElem?_take_of_lt h, List.getElem?_drop]
theorem min_if {a b : Int} : (if b < a then b else a) = min a b := by rw [Int.min_def]; split <;> split <;> omega

theorem iarr_cut {s : SV} {xs : List Int} {l r : Nat} (h : IArr H s xs) (hl : l ≤ r) (hr : r ≤ s.len) : IArr H (s.cut 1 l r) ((xs.drop l).take (r - l)) := by
  have := h.cut hl hr
  rw [Nat.mul_one, Nat.mul_one] at this
  have e : ((ints xs).drop l).take (r - l) = ints ((xs.drop l).take (r - l)) := by simp only [ints, List.map_take, List.map_drop]
  rwa [e] at this

theorem first_idx {stk s : List Nat} {c j : Nat} (hns : c ∉ stk) (h1 : j < (zs (stk ++ c :: s)).length) (h2 : (zs (stk ++ c :: s)).getD j 0 = c) (h3 : ∀ i, i < j → (zs (stk ++ c :: s)).getD i 0 ≠ c) : j = stk.length := by
  rw [zs_len] at h1
  rcases Nat.lt_trichotomy j stk.length with hlt | heq | hgt
  · rw [zs_get h1, List.getElem_append_left hlt] at h2
    exact absurd (by rw [← Int.ofNat_inj.1 h2]; exact List.getElem_mem _) hns
  · exact heq
  · exact absurd (by rw [zs_get (by simp)]; simp) (h3 stk.length hgt)
theorem zs_drop {s t : List Nat} : ((zs (s ++ t)).drop s.length).take (t.length) = zs t := by
  rw [zs_app, ← zs_len (stk := s), List.drop_left, ← zs_len (stk := t), List.take_length]
theorem CS.setO {L : CLay} {G : AHeap} {sS : SV} {stk : List Nat} {c : Nat} {z : Int} (h : CS L G sS stk) : CS L ((SV.at L.aO 0 L.N).put G c [iv z]) sS stk := by
  obtain ⟨o1, o2, o3, o4, o5, o6, o7, o8, o9, o10⟩ := L.ord
  exact ⟨by rw [at_ne (by omega)]; exact h.at', h.own.kp (h.off L.aO (by unfold CLay.has; omega)) fun k hk => at_ne hk, h.off⟩
theorem mem_take_add {α : Type} {l : List α} {j : Nat} {x v : α} (h : l[j]? = some x) : v ∈ l.take (j + 1) ↔ v ∈ l.take j ∨ v = x := by
  rw [List.take_add_one, h]; simp

theorem visit_rets {L : CLay} {g : GV} {x : GD} {es : List E4} {H0 : AHeap} (hg : GArr H0 g x) (ok : x.Ok) (hes : x.Edges es) (hN : x.n = L.N) : ∀ (m : Nat) {G : AHeap} {ix lo ou : List Int} {stk : List Nat} {nx : Int} {gr : Nat → Prop} {c : Nat}, cnt0 ix = m → c < L.N → CF L g H0 G ix lo ou stk nx → TS (ER es) L.N gr (fi ix) (fi ou) stk nx → ix.getD c 0 = 0 → 0 < nx → nx + cnt0 ix ≤ 2000 → (∀ v, gr v → Rch (ER es) v c) →
    Rets Go.Proofs.Try.prog w0 28 (iv c :: capt L) G (VPost L g H0 es gr c ix lo ou stk nx) := by
  intro m
  induction m using Nat.strongRecOn with
  | ind m ih =>
  intro G ix lo ou stk nx gr c hm hc hF hT0 h0 hnx hbd hgr
  obtain ⟨o1, o2, o3, o4, o5, o6, o7, o8, o9, o10⟩ := L.ord
  have okn := ok.n
  have oks := ok.s
  have okt := ok.t
  have okm := ok.m
  have hN' : x.n.toNat = L.N := by omega
  rw [hN'] at okt okm
  have hil : c < ix.length := by rw [hF.li]; exact hc
  have hll : c < lo.length := by rw [hF.ll]; exact hc
  have hou : fi ou c < 0 := by
    have := hT0.fin c hc
    have h2 : fi ix c = 0 := h0
    omega
  have hE : ∀ u v, ER es u v → u < L.N ∧ v < L.N := fun u v he => by
    obtain ⟨h1, k, h2, h3, h4⟩ := (ER_iff ok hes).1 he
    have a := ok.up' (u + 1) x.n.toNat (by omega) (by omega)
    rw [hN'] at a
    have := (ok.e k (by rw [hN']; omega)).t
    omega
  have hstk : ∀ y, y ∈ stk → y < L.N ∧ 0 < fi ix y := fun y hy => ⟨((hT0.mem y).1 hy).1, ((hT0.mem y).1 hy).2.1⟩
  have hsl := hT0.slen hnx
  have hLoop := hT0.start (lo := fi lo) hc h0 hou hnx hgr
  rw [← fi_set hil, ← fi_set hll] at hLoop
  have hcnt := cnt0_set (z := nx) hil h0 (by omega)
  refine rets_fun rfl cf_i_Components_1 (body_of ?_)
  -- index, low, next
  have hF1 := hF.setI (z := nx) hc
  have hF2 := hF1.setL (z := nx) hc
  have d1 : ((SV.at L.aI 0 L.N).put G c [iv nx]).get L.kL = G.get L.kL := at_ne (by omega)
  have d2 : ((SV.at L.aI 0 L.N).put G c [iv nx]).get L.kN = G.get L.kN := at_ne (by omega)
  simp -implicitDefEqProofs (disch := first | assumption | exact id rfl | omega | (simp only [AHeap.alloc_n, AHeap.put_n, SV.put_n, AHeap.kill_n, ne_eq, List.length_cons, List.length_nil]; omega)) only [i_Components_1_0, i_Components_1_1, DXs, and_true, true_and, Nat.reduceSub, List.length_cons, List.length_nil, SXs, cond_true, cond_false, env0, List.getElem?_cons_zero, List.getElem?_cons_succ, Nat.reduceEqDiff, if_true, if_false, ↓reduceIte, Nat.reduceAdd, Nat.zero_add, Nat.add_zero, Nat.mul_one, reduceCtorEq, hF.ldI, hF.ldL, hF.ldN, at_ia, iown_st (n := nx) hF.oi hil, iown_st (n := nx) hF1.ol hll, d1, d2]
  clear d1 d2 hF hF1
  generalize (SV.at L.aL 0 L.N).put ((SV.at L.aI 0 L.N).put G c [iv nx]) c [iv nx] = G2 at *
  have hF3 := hF2.setN (z := nx + 1)
  simp -implicitDefEqProofs (disch := first | assumption | exact id rfl | omega | (simp only [AHeap.alloc_n, AHeap.put_n, SV.put_n, AHeap.kill_n, ne_eq, List.length_cons, List.length_nil]; omega)) only [i_Components_1_2, i_Components_1_3, i_Components_1_4, i_Components_1_5, i_Components_1_6, i_Components_1_7, i_Components_1_8, i_Components_1_9, i_Components_1_10, SXs, cond_true, cond_false, env0, List.getElem?_cons_zero, List.getElem?_cons_succ, Nat.reduceEqDiff, if_true, if_false, ↓reduceIte, Nat.reduceAdd, Nat.zero_add, Nat.add_zero, Nat.mul_one, reduceCtorEq, hF2.ldN, stO_at, hF2.n, stC_int, List.length_cons, List.length_nil]
  clear hF2
  generalize G2.put L.kN 0 [iv (nx + 1)] = G3 at *
  obtain ⟨sS, hS⟩ := hF3.st
  have hSl := iarr_len hS.own.arr
  rw [zs_len] at hSl
  have hkS : L.has L.kS := by unfold CLay.has; omega
  have a1 := app1_get (ty := 3) (cs := ints (zs stk)) (ds := [iv c]) (hF3.lt hkS) (hS.off _ hkS)
  have hF4 := hF3.push (c := c) hS
  simp -implicitDefEqProofs (disch := first | assumption | exact id rfl | omega | (simp only [AHeap.alloc_n, AHeap.put_n, SV.put_n, AHeap.kill_n, ne_eq, List.length_cons, List.length_nil]; omega)) only [i_Components_1_4, i_Components_1_5, i_Components_1_6, i_Components_1_7, i_Components_1_8, i_Components_1_9, i_Components_1_10, SXs, cond_true, cond_false, env0, List.getElem?_cons_zero, List.getElem?_cons_succ, Nat.reduceEqDiff, if_true, if_false, ↓reduceIte, Nat.reduceAdd, Nat.zero_add, Nat.add_zero, Nat.mul_one, reduceCtorEq, hS.ld, mk_int, appO_one (bytes := 8) (ds := [iv (c : Int)]) hS.own rfl (by omega) (by omega), stO_at, a1, hS.at', stC_s, List.length_cons, List.length_nil]
  unfold AHeap.upd at hF4
  clear a1 hS hF3 hSl
  generalize (G3.app1 sS 3 (ints (zs stk)) [iv c]).put L.kS 0 [(SV.at (G3.n + 1) 0 (sS.len + 1)).v] = G4 at *
  obtain ⟨a, ha⟩ : ∃ a : Nat, x.s.getD c 0 = a := ⟨(x.s.getD c 0).toNat, by have := ok.up' 0 c (by omega) (by omega); have := ok.s0; omega⟩
  obtain ⟨b, hb⟩ : ∃ b : Nat, x.s.getD (c + 1) 0 = b := ⟨(x.s.getD (c + 1) 0).toNat, by have := ok.up' 0 (c + 1) (by omega) (by omega); have := ok.s0; omega⟩
  have hab : a ≤ b := by have := ok.up c (by omega); omega
  have hbt : b ≤ x.t.length := by have := ok.up' (c + 1) x.n.toNat (by omega) (by omega); rw [hN'] at this; omega
  have hg4 := hg.ext hF4.e
  have lgs := iarr_len hg4.s
  have lgt := iarr_len hg4.t
  have hslc : slcO 3 1 (some g.t.v) (some (some (iv a))) (some (some (iv b))) G4 = some ((g.t.cut 1 a b).v, G4) := hg4.t.slc (cut_lh hab (by omega))
  have hcl : (g.t.cut 1 a b).len = b - a := SV.cut_len (by omega)
  simp -implicitDefEqProofs (disch := first | assumption | exact id rfl | omega | (simp only [AHeap.alloc_n, AHeap.put_n, SV.put_n, AHeap.kill_n, ne_eq, List.length_cons, List.length_nil]; omega)) only [SXs, cond_true, cond_false, env0, List.getElem?_cons_zero, List.getElem?_cons_succ, Nat.reduceEqDiff, if_true, if_false, ↓reduceIte, Nat.reduceAdd, Nat.zero_add, Nat.add_zero, Nat.mul_one, reduceCtorEq, ldO_at, hF4.g, ldC_cells, GV.get1, GV.get2, Option.map_some, iarr_ld hg4.s, ha, hb, hslc, hcl]
  have hD : ∀ {w k : Nat}, a ≤ k → k < b → x.t.getD k 0 = w → ER es c w := fun {w k} h1 h2 h3 => (ER_iff ok hes).2 ⟨by omega, k, by omega, by omega, h3⟩
  refine CW_midq (fun e G => ∃ (ix' lo' ou' : List Int) (s : List Nat) (nx' : Int), e 0 = some (iv c) ∧ e 2 = some (pt L.kI 0) ∧ e 3 = some (pt L.kL 0) ∧ e 4 = some (pt L.kS 0) ∧ e 7 = some (pt L.kO 0) ∧ CF L g H0 G ix' lo' ou' (stk ++ c :: s) nx' ∧ TLoop (ER es) L.N gr c (fi ix) (fi lo) (fi ou) stk nx (fun w => ER es c w) (fi ix') (fi lo') (fi ou') s nx' ∧ nx' + cnt0 ix' = nx + cnt0 ix) ?_ ?_
  · refine CW_inv (fun n e G => ∃ (j : Nat) (ix' lo' ou' : List Int) (s : List Nat) (nx' : Int), n = b - a - j ∧ j ≤ b - a ∧ e 0 = some (iv c) ∧ e 2 = some (pt L.kI 0) ∧ e 3 = some (pt L.kL 0) ∧ e 4 = some (pt L.kS 0) ∧ e 6 = some (pt L.kV 0) ∧ e 7 = some (pt L.kO 0) ∧ e 42 = some (g.t.cut 1 a b).v ∧ e 43 = some (iv (b - a : Nat)) ∧ e 44 = some (iv j) ∧ CF L g H0 G ix' lo' ou' (stk ++ c :: s) nx' ∧ TLoop (ER es) L.N gr c (fi ix) (fi lo) (fi ou) stk nx (fun y => ∃ k : Nat, a ≤ k ∧ k < a + j ∧ x.t.getD k 0 = y) (fi ix') (fi lo') (fi ou') s nx' ∧ nx' + cnt0 ix' = nx + cnt0 ix) (b - a)
      ⟨0, _, _, _, [], _, by simp, by omega, rfl, rfl, rfl, rfl, rfl, rfl, rfl, rfl, rfl, hF4, hLoop.mono (fun y hy => by obtain ⟨k, h1, h2, h3⟩ := hy; omega), by omega⟩ ?_
    clear hF4 hg4 hslc lgs hLoop
    rintro n e G ⟨j, ix', lo', ou', s, nx', hn, hj, e0, e2, e3, e4, e6, e7, e42, e43, e44, hF, hT, hq⟩
    simp -implicitDefEqProofs (disch := first | assumption | exact id rfl | omega | (simp only [AHeap.alloc_n, AHeap.put_n, SV.put_n, AHeap.kill_n, ne_eq, List.length_cons, List.length_nil]; omega)) only [i_Components_1_11, i_Components_1_12, i_Components_1_13, i_Components_1_14, CW_cond, SXs, cond_true, cond_false, env0, List.getElem?_cons_zero, List.getElem?_cons_succ, Nat.reduceEqDiff, if_true, if_false, ↓reduceIte, Nat.reduceAdd, Nat.zero_add, Nat.add_zero, Nat.mul_one, reduceCtorEq, e43, e44]
    refine condK_of (fun h => ?_) (fun h => ?_) <;> simp only [decide_eq_true_eq, decide_eq_false_iff_not, bne_iff_ne, ne_eq, bne_eq_false_iff_eq, beq_iff_eq, beq_eq_false_iff_ne, Bool.not_eq_true, Bool.not_eq_eq_eq_not, Bool.not_true, Bool.not_false, Classical.not_not, Int.not_lt, Int.not_le] at h
    · have hjb : j < b - a := by omega
      have hgt := iarr_cut (hg.ext hF.e).t hab (by omega)
      have hgl := iarr_len hgt
      obtain ⟨w, hw⟩ : ∃ w : Nat, x.t.getD (a + j) 0 = w := ⟨(x.t.getD (a + j) 0).toNat, by have := (ok.e (a + j) (by rw [hN']; omega)).t; omega⟩
      have hwN : w < L.N := by have := (ok.e (a + j) (by rw [hN']; omega)).t; omega
      have hg' : ((x.t.drop a).take (b - a)).getD j 0 = w := by rw [getD_at hjb]; exact hw
      have hEw := hD (by omega) (by omega) hw
      have hDs : ∀ y : Nat, (∃ k : Nat, a ≤ k ∧ k < a + (j + 1) ∧ x.t.getD k 0 = y) → (∃ k : Nat, a ≤ k ∧ k < a + j ∧ x.t.getD k 0 = y) ∨ y = w := fun y hy => by
        obtain ⟨k, h1, h2, h3⟩ := hy
        by_cases hk : k = a + j
        · subst hk; right; omega
        · exact .inl ⟨k, h1, by omega, h3⟩
      have hwix : w < ix'.length := by rw [hF.li]; exact hwN
      have hwlo : w < lo'.length := by rw [hF.ll]; exact hwN
      have hwou : w < ou'.length := by rw [hF.lo']; exact hwN
      have hclo : c < lo'.length := by rw [hF.ll]; exact hc
      simp -implicitDefEqProofs (disch := first | assumption | exact id rfl | omega | (simp only [AHeap.alloc_n, AHeap.put_n, SV.put_n, AHeap.kill_n, ne_eq, List.length_cons, List.length_nil]; omega)) only [i_Components_1_15, i_Components_1_16, i_Components_1_17, i_Components_1_18, i_Components_1_19, i_Components_1_20, i_Components_1_21, CW_cond, SXs, cond_true, cond_false, env0, List.getElem?_cons_zero, List.getElem?_cons_succ, Nat.reduceEqDiff, if_true, if_false, ↓reduceIte, Nat.reduceAdd, Nat.zero_add, Nat.add_zero, Nat.mul_one, reduceCtorEq, e2, e42, e44, iarr_ld hgt, hg', hF.ldI, at_ia, iarr_ld hF.oi.arr]
      refine condK_of (fun h2 => ?_) (fun h2 => ?_) <;> simp only [decide_eq_true_eq, decide_eq_false_iff_not, bne_iff_ne, ne_eq, bne_eq_false_iff_eq, beq_iff_eq, beq_eq_false_iff_ne, Bool.not_eq_true, Bool.not_eq_eq_eq_not, Bool.not_true, Bool.not_false, Classical.not_not, Int.not_lt, Int.not_le] at h2
      · have hw0 : fi ix' w = 0 := h2
        have hne : w ≠ c := fun he => by
          subst he
          have h1 := hT.ixc
          omega
        have hcw := ((hT.wf.mem c).1 (by simp))
        simp -implicitDefEqProofs (disch := first | assumption | exact id rfl | omega | (simp only [AHeap.alloc_n, AHeap.put_n, SV.put_n, AHeap.kill_n, ne_eq, List.length_cons, List.length_nil]; omega)) only [i_Components_1_22, i_Components_1_23, i_Components_1_24, i_Components_1_29, SXs, cond_true, cond_false, env0, List.getElem?_cons_zero, List.getElem?_cons_succ, Nat.reduceEqDiff, if_true, if_false, ↓reduceIte, Nat.reduceAdd, Nat.zero_add, Nat.add_zero, Nat.mul_one, reduceCtorEq, e6, hF.ldV, visit_able, true_and, List.append_nil, List.nil_append, List.cons_append, List.toList_toArray]
        have hnx' := hT.nxk
        have hcx := hT.ixc
        have hlt : cnt0 ix' < m := by omega
        refine (ih _ hlt (c := w) (gr := fun v => gr v ∨ v = c) rfl hwN hF hT.wf h2 (by omega) (by omega) (fun v hv => ?_)).mono ?_
        · rcases hv with hv | rfl
          · exact (hgr v hv).trans (Rch.edge hEw)
          · exact Rch.edge hEw
        rintro _ G' hn' ⟨ix2, lo2, ou2, s2, nx2, hF2, hT2, hq2⟩
        have happ : (stk ++ c :: s) ++ s2 = stk ++ c :: (s ++ s2) := by simp
        rw [happ] at hF2
        have hch := (hT.child h0 hstk hEw hwN hw0 hT2).mono hDs
        have hwlo2 : w < lo2.length := by rw [hF2.ll]; exact hwN
        have hclo2 : c < lo2.length := by rw [hF2.ll]; exact hc
        simp -implicitDefEqProofs (disch := first | assumption | exact id rfl | omega | (simp only [AHeap.alloc_n, AHeap.put_n, SV.put_n, AHeap.kill_n, ne_eq, List.length_cons, List.length_nil]; omega)) only [SXs, cond_true, cond_false, env0, List.getElem?_cons_zero, List.getElem?_cons_succ, Nat.reduceEqDiff, if_true, if_false, ↓reduceIte, Nat.reduceAdd, Nat.zero_add, Nat.add_zero, Nat.mul_one, reduceCtorEq, e0, e3, e44, hF2.ldL, at_ia, iarr_ld hF2.ol.arr, iown_st (n := min (lo2.getD c 0) (lo2.getD w 0)) hF2.ol hclo2, min_if]
        refine ⟨b - a - (j + 1), by omega, j + 1, _, _, _, _, _, rfl, by omega, e0, e2, e3, e4, e6, e7, e42, e43, rfl, hF2.setL hc, ?_, by omega⟩
        rw [fi_set hclo2]
        exact hch
      · simp -implicitDefEqProofs (disch := first | assumption | exact id rfl | omega | (simp only [AHeap.alloc_n, AHeap.put_n, SV.put_n, AHeap.kill_n, ne_eq, List.length_cons, List.length_nil]; omega)) only [i_Components_1_25, i_Components_1_26, i_Components_1_27, CW_cond, SXs, cond_true, cond_false, env0, List.getElem?_cons_zero, List.getElem?_cons_succ, Nat.reduceEqDiff, if_true, if_false, ↓reduceIte, Nat.reduceAdd, Nat.zero_add, Nat.add_zero, Nat.mul_one, reduceCtorEq, e7, hF.ldO, at_ia, iarr_ld hF.oo.arr]
        have hwp : 0 < fi ix' w := by have := (hT.wf.ixn w hwN).1; unfold fi at this ⊢; omega
        refine condK_of (fun h3 => ?_) (fun h3 => ?_) <;> simp only [decide_eq_true_eq, decide_eq_false_iff_not, bne_iff_ne, ne_eq, bne_eq_false_iff_eq, beq_iff_eq, beq_eq_false_iff_ne, Bool.not_eq_true, Bool.not_eq_eq_eq_not, Bool.not_true, Bool.not_false, Classical.not_not, Int.not_lt, Int.not_le] at h3
        · simp -implicitDefEqProofs (disch := first | assumption | exact id rfl | omega | (simp only [AHeap.alloc_n, AHeap.put_n, SV.put_n, AHeap.kill_n, ne_eq, List.length_cons, List.length_nil]; omega)) only [i_Components_1_28, i_Components_1_29, SXs, cond_true, cond_false, env0, List.getElem?_cons_zero, List.getElem?_cons_succ, Nat.reduceEqDiff, if_true, if_false, ↓reduceIte, Nat.reduceAdd, Nat.zero_add, Nat.add_zero, Nat.mul_one, reduceCtorEq, e0, e2, e3, e44, hF.ldL, hF.ldI, at_ia, iarr_ld hF.ol.arr, iarr_ld hF.oi.arr, iown_st (n := min (lo'.getD c 0) (ix'.getD w 0)) hF.ol hclo, min_if]
          refine ⟨b - a - (j + 1), by omega, j + 1, _, _, _, _, _, rfl, by omega, e0, e2, e3, e4, e6, e7, e42, e43, rfl, hF.setL hc, ?_, hq⟩
          rw [fi_set hclo]
          exact (hT.back h0 hstk hEw hwN hwp h3).mono hDs
        · simp -implicitDefEqProofs (disch := first | assumption | exact id rfl | omega | (simp only [AHeap.alloc_n, AHeap.put_n, SV.put_n, AHeap.kill_n, ne_eq, List.length_cons, List.length_nil]; omega)) only [i_Components_1_29, SXs, cond_true, cond_false, env0, List.getElem?_cons_zero, List.getElem?_cons_succ, Nat.reduceEqDiff, if_true, if_false, ↓reduceIte, Nat.reduceAdd, Nat.zero_add, Nat.add_zero, Nat.mul_one, reduceCtorEq, e44]
          exact ⟨b - a - (j + 1), by omega, j + 1, _, _, _, _, _, rfl, by omega, e0, e2, e3, e4, e6, e7, e42, e43, rfl, hF, (hT.over hwN hwp h3).mono hDs, hq⟩
    · have hjb : j = b - a := by omega
      subst hjb
      exact ⟨ix', lo', ou', s, nx', (by first | trivial | assumption), (by first | trivial | assumption), (by first | trivial | assumption), (by first | trivial | assumption), (by first | trivial | assumption), hF, hT.mono (fun y hy => by
        obtain ⟨h1, k, h2, h3, h4⟩ := (ER_iff ok hes).1 hy
        exact ⟨k, by omega, by omega, h4⟩), hq⟩
  clear hF4 hg4 hslc lgs hLoop
  rintro e G hn0 ⟨ix', lo', ou', s, nx', e0, e2, e3, e4, e7, hF, hT, hq⟩
  have hix : c < ix'.length := by rw [hF.li]; exact hc
  have hlo : c < lo'.length := by rw [hF.ll]; exact hc
  simp -implicitDefEqProofs (disch := first | assumption | exact id rfl | omega | (simp only [AHeap.alloc_n, AHeap.put_n, SV.put_n, AHeap.kill_n, ne_eq, List.length_cons, List.length_nil]; omega)) only [i_Components_1_30, i_Components_1_31, i_Components_1_32, i_Components_1_33, CW_cond, SXs, cond_true, cond_false, env0, List.getElem?_cons_zero, List.getElem?_cons_succ, Nat.reduceEqDiff, if_true, if_false, ↓reduceIte, Nat.reduceAdd, Nat.zero_add, Nat.add_zero, Nat.mul_one, reduceCtorEq, e0, e2, e3, hF.ldI, hF.ldL, at_ia, iarr_ld hF.oi.arr, iarr_ld hF.ol.arr]
  refine condK_of (fun h => ?_) (fun h => ?_) <;> simp only [decide_eq_true_eq, decide_eq_false_iff_not, bne_iff_ne, ne_eq, bne_eq_false_iff_eq, beq_iff_eq, beq_eq_false_iff_ne, Bool.not_eq_true, Bool.not_eq_eq_eq_not, Bool.not_true, Bool.not_false, Classical.not_not, Int.not_lt, Int.not_le] at h
  · simp -implicitDefEqProofs (disch := first | assumption | exact id rfl | omega | (simp only [AHeap.alloc_n, AHeap.put_n, SV.put_n, AHeap.kill_n, ne_eq, List.length_cons, List.length_nil]; omega)) only [aop_ld, aop_ldn, bodyK_ret, bodyK_normal, resL, resV, Option.map_some, oneV, blockK_exit, seqK_exit, seqK_ret, blockK_ret, loopK_exit, loopK_ret, rs_i_Components_1, SXs, cond_true, cond_false, env0, List.getElem?_cons_zero, List.getElem?_cons_succ, Nat.reduceEqDiff, if_true, if_false, ↓reduceIte, Nat.reduceAdd, Nat.zero_add, Nat.add_zero, Nat.mul_one, reduceCtorEq]
    exact ⟨ix', lo', ou', c :: s, nx', hF, hT.keep hstk hT0.gray (fun w hw => hw) h, hq⟩
  have hcx := hT.ixc
  have hcs : c ∉ stk := fun hm => by
    have := (inc_split hT).1 c hm
    omega
  have hsl' := hT.wf.slen (by have := hT.nxk; omega)
  have hnx' := hT.nxk
  simp only [List.length_append, List.length_cons] at hsl'
  obtain ⟨sS, hS⟩ := hF.st
  have hSl := iarr_len hS.own.arr
  have hzl : (zs (stk ++ c :: s)).length = stk.length + (s.length + 1) := by rw [zs_len]; simp
  rw [hzl] at hSl
  simp -implicitDefEqProofs (disch := first | assumption | exact id rfl | omega | (simp only [AHeap.alloc_n, AHeap.put_n, SV.put_n, AHeap.kill_n, ne_eq, List.length_cons, List.length_nil]; omega)) only [i_Components_1_34, i_Components_1_35, i_Components_1_36, i_Components_1_37, i_Components_1_38, i_Components_1_39, i_Components_1_40, i_Components_1_41, i_Components_1_42, SXs, cond_true, cond_false, env0, List.getElem?_cons_zero, List.getElem?_cons_succ, Nat.reduceEqDiff, if_true, if_false, ↓reduceIte, Nat.reduceAdd, Nat.zero_add, Nat.add_zero, Nat.mul_one, reduceCtorEq, e0, e4, hS.ld]
  refine (index_rets hS.own.arr (by omega) (by simp [zs])).mono ?_
  rintro _ _ hn1 ⟨j, rfl, hj1, hj2, hj3, rfl⟩
  have hjs := first_idx hcs hj1 hj2 hj3
  subst hjs
  have hcut := iarr_cut (l := stk.length) (r := sS.len) hS.own.arr (by omega) (by omega)
  have hcl : (sS.cut 1 stk.length sS.len).len = s.length + 1 := by rw [SV.cut_len (by omega)]; omega
  have e1 : ((zs (stk ++ c :: s)).drop stk.length).take (sS.len - stk.length) = zs (c :: s) := by
    rw [show sS.len - stk.length = (c :: s).length by simp; omega]; exact zs_drop
  rw [e1] at hcut
  have hslc : ∀ {G : AHeap}, IOwn G sS (zs (stk ++ c :: s)) → slcO 3 1 (some sS.v) (some (some (iv stk.length))) (some none) G = some ((sS.cut 1 stk.length sS.len).v, G) := fun h => h.arr.slc (cut_lo (by omega))
  simp -implicitDefEqProofs (disch := first | assumption | exact id rfl | omega | (simp only [AHeap.alloc_n, AHeap.put_n, SV.put_n, AHeap.kill_n, ne_eq, List.length_cons, List.length_nil]; omega)) only [SXs, cond_true, cond_false, env0, List.getElem?_cons_zero, List.getElem?_cons_succ, Nat.reduceEqDiff, if_true, if_false, ↓reduceIte, Nat.reduceAdd, Nat.zero_add, Nat.add_zero, Nat.mul_one, reduceCtorEq, e4, hS.ld, hslc hS.own]
  refine (min_rets hcut (by simp [zs]; omega) (by simp [zs])).mono ?_
  rintro _ _ hn2 ⟨mi, rfl, hm1, hm2, rfl⟩
  obtain ⟨mm, hmm, rfl⟩ : ∃ mm, mm ∈ c :: s ∧ ((mm : Nat) : Int) = mi := List.mem_map.1 hm1
  have hmle : ∀ y, y ∈ c :: s → mm ≤ y := fun y hy => by have := hm2 y (List.mem_map_of_mem hy); omega
  simp -implicitDefEqProofs (disch := first | assumption | exact id rfl | omega | (simp only [AHeap.alloc_n, AHeap.put_n, SV.put_n, AHeap.kill_n, ne_eq, List.length_cons, List.length_nil]; omega)) only [SXs, cond_true, cond_false, env0, List.getElem?_cons_zero, List.getElem?_cons_succ, Nat.reduceEqDiff, if_true, if_false, ↓reduceIte, Nat.reduceAdd, Nat.zero_add, Nat.add_zero, Nat.mul_one, reduceCtorEq, e4, hS.ld, hslc hS.own, hcl]
  refine CW_midq (fun e G => ∃ ou'' : List Int, e 4 = some (pt L.kS 0) ∧ e 11 = some (iv stk.length) ∧ CF L g H0 G ix' lo' ou'' (stk ++ c :: s) nx' ∧ CS L G sS (stk ++ c :: s) ∧ ∀ v, v < L.N → fi ou'' v = if v ∈ c :: s then (mm : Int) else fi ou' v) ?_ ?_
  · refine CW_inv (fun n e G => ∃ (j : Nat) (ou'' : List Int), n = s.length + 1 - j ∧ j ≤ s.length + 1 ∧ e 4 = some (pt L.kS 0) ∧ e 7 = some (pt L.kO 0) ∧ e 11 = some (iv stk.length) ∧ e 12 = some (iv mm) ∧ e 104 = some (sS.cut 1 stk.length sS.len).v ∧ e 105 = some (iv (s.length + 1 : Nat)) ∧ e 106 = some (iv j) ∧ CF L g H0 G ix' lo' ou'' (stk ++ c :: s) nx' ∧ CS L G sS (stk ++ c :: s) ∧ ∀ v, v < L.N → fi ou'' v = if v ∈ (c :: s).take j then (mm : Int) else fi ou' v) (s.length + 1)
      ⟨0, ou', by omega, by omega, e4, e7, rfl, rfl, rfl, rfl, rfl, hF, hS, fun v hv => by simp⟩ ?_
    clear hF hS hcut
    clear e0 e2 e3 e4 e7
    rintro n e G ⟨j, ou'', hn, hj, e4, e7, e11, e12, e104, e105, e106, hF, hS, hv⟩
    simp -implicitDefEqProofs (disch := first | assumption | exact id rfl | omega | (simp only [AHeap.alloc_n, AHeap.put_n, SV.put_n, AHeap.kill_n, ne_eq, List.length_cons, List.length_nil]; omega)) only [i_Components_1_43, i_Components_1_44, i_Components_1_45, i_Components_1_46, CW_cond, SXs, cond_true, cond_false, env0, List.getElem?_cons_zero, List.getElem?_cons_succ, Nat.reduceEqDiff, if_true, if_false, ↓reduceIte, Nat.reduceAdd, Nat.zero_add, Nat.add_zero, Nat.mul_one, reduceCtorEq, e105, e106]
    refine condK_of (fun h2 => ?_) (fun h2 => ?_) <;> simp only [decide_eq_true_eq, decide_eq_false_iff_not, bne_iff_ne, ne_eq, bne_eq_false_iff_eq, beq_iff_eq, beq_eq_false_iff_ne, Bool.not_eq_true, Bool.not_eq_eq_eq_not, Bool.not_true, Bool.not_false, Classical.not_not, Int.not_lt, Int.not_le] at h2
    · have hjl : j < (c :: s).length := by simp only [List.length_cons]; omega
      have hcut := iarr_cut (l := stk.length) (r := sS.len) hS.own.arr (by omega) (by omega)
      rw [e1] at hcut
      obtain ⟨y, hy⟩ : ∃ y, (c :: s)[j]? = some y := ⟨_, List.getElem?_eq_getElem hjl⟩
      have hym := List.mem_of_getElem? hy
      have hyN : y < L.N := ((hT.wf.mem y).1 (List.mem_append_right _ hym)).1
      have hyg : (zs (c :: s)).getD j 0 = y := by
        rw [zs_get hjl]
        rw [List.getElem?_eq_getElem hjl] at hy
        injection hy with hy; rw [hy]
      have hyo : y < ou''.length := by rw [hF.lo']; exact hyN
      have hjz : j < (zs (c :: s)).length := by rw [zs_len]; exact hjl
      simp -implicitDefEqProofs (disch := first | assumption | exact id rfl | omega | (simp only [AHeap.alloc_n, AHeap.put_n, SV.put_n, AHeap.kill_n, ne_eq, List.length_cons, List.length_nil]; omega)) only [i_Components_1_47, i_Components_1_48, i_Components_1_49, i_Components_1_50, i_Components_1_51, i_Components_1_52, SXs, cond_true, cond_false, env0, List.getElem?_cons_zero, List.getElem?_cons_succ, Nat.reduceEqDiff, if_true, if_false, ↓reduceIte, Nat.reduceAdd, Nat.zero_add, Nat.add_zero, Nat.mul_one, reduceCtorEq, e7, e12, e104, e106, iarr_ld hcut, hyg, hF.ldO, at_ia, iown_st (n := (mm : Int)) hF.oo hyo]
      refine ⟨s.length + 1 - (j + 1), by omega, j + 1, _, rfl, by omega, e4, e7, e11, e12, e104, e105, rfl, hF.setO hyN, hS.setO, fun v hvN => ?_⟩
      rw [fi_set hyo]
      by_cases hvy : v = y
      · subst hvy
        rw [updI_same, if_pos ((mem_take_add hy).2 (.inr rfl))]
      · rw [updI_ne hvy, hv v hvN]
        have : v ∈ (c :: s).take (j + 1) ↔ v ∈ (c :: s).take j := by rw [mem_take_add hy]; exact ⟨fun h => h.resolve_right hvy, .inl⟩
        simp only [this]
    · have hjl : j = (c :: s).length := by simp only [List.length_cons]; omega
      rw [hjl, List.take_length] at hv
      exact ⟨ou'', (by first | trivial | assumption), (by first | trivial | assumption), hF, hS, hv⟩
  · clear hF hS hcut
    clear e0 e2 e3 e4 e7
    rintro e G hn3 ⟨ou'', e4, e11, hF, hS, hv⟩
    have hslc2 : slcO 3 1 (some sS.v) (some none) (some (some (iv stk.length))) G = some ((sS.cut 1 0 stk.length).v, G) := hS.own.arr.slc (cut_hi (by omega))
    simp -implicitDefEqProofs (disch := first | assumption | exact id rfl | omega | (simp only [AHeap.alloc_n, AHeap.put_n, SV.put_n, AHeap.kill_n, ne_eq, List.length_cons, List.length_nil]; omega)) only [i_Components_1_53, aop_ld, aop_ldn, bodyK_ret, bodyK_normal, resL, resV, Option.map_some, oneV, blockK_exit, seqK_exit, seqK_ret, blockK_ret, loopK_exit, loopK_ret, rs_i_Components_1, SXs, cond_true, cond_false, env0, List.getElem?_cons_zero, List.getElem?_cons_succ, Nat.reduceEqDiff, if_true, if_false, ↓reduceIte, Nat.reduceAdd, Nat.zero_add, Nat.add_zero, Nat.mul_one, reduceCtorEq, e4, e11, hS.ld, hslc2, stO_at, hS.at', stC_s, List.length_cons, List.length_nil]
    exact ⟨ix', lo', ou'', [], nx', by rw [List.append_nil]; exact hF.pop hS, hT.pop hE hstk hT0.gray (fun w hw => hw) h hmm hmle hv, hq⟩
end Go.AB
