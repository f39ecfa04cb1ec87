/- Components, as the implementation finds them. -/
import Derived.Test.YtnbamdhmhnhneaaT26
set_option linter.unusedVariables false
set_option linter.unusedSimpArgs false
set_option maxRecDepth 10000
set_option maxHeartbeats 4000000
namespace Go.AB
open Go.Proofs
variable {w0 : World} {H : AHeap}

theorem box_st (G : AHeap) (d v : Value) (ty : TypeId) : ∃ F : AHeap, (G.alloc (.cells [d] ty)).put G.n 0 [v] = F ∧ F.n = G.n + 1 ∧ F.get G.n = .cells [v] ty ∧ Ext G F := by
  refine ⟨_, rfl, by rw [AHeap.put_n]; rfl, by rw [put_at, AHeap.alloc_self]; rfl, ((Ext.refl G).allocs _).put (Nat.le_refl _)⟩

theorem two_st (G : AHeap) (xs : List Int) (N : Nat) (hl : xs.length = N) : ∃ R : AHeap, (((((G.alloc (.cells (ints xs) 3)).alloc (.cells (ints xs) 3)).alloc (.cells [.slice none 0 0] 22)).alloc (.cells [.slice none 0 0] 22)).put (G.n + 1 + 1) 0 [(SV.at G.n 0 N).v]).put (G.n + 1 + 1 + 1) 0 [(SV.at (G.n + 1) 0 N).v] = R ∧ R.n = G.n + 4 ∧
    R.get (G.n + 1 + 1) = .cells [(SV.at G.n 0 N).v] 22 ∧ R.get (G.n + 1 + 1 + 1) = .cells [(SV.at (G.n + 1) 0 N).v] 22 ∧ IOwn R (.at G.n 0 N) xs ∧ IOwn R (.at (G.n + 1) 0 N) xs ∧ Ext G R := by
  have z1 : IOwn (G.alloc (.cells (ints xs) 3)) (.at G.n 0 N) xs := Own.new (by rw [ints_len]; omega)
  have z2 : IOwn ((G.alloc (.cells (ints xs) 3)).alloc (.cells (ints xs) 3)) (.at (G.n + 1) 0 N) xs := Own.new (H := G.alloc (.cells (ints xs) 3)) (by rw [ints_len]; omega)
  refine ⟨_, rfl, by rw [AHeap.put_n, AHeap.put_n]; rfl, ?_, ?_, ?_, ?_, ?_⟩
  · rw [AHeap.put_ne (by omega), put_at, AHeap.alloc_ne _ _ (by simp only [AHeap.alloc_n]; omega)]
    exact congrArg (fun o => putC o 0 _) (AHeap.alloc_self _ _)
  · rw [put_at, AHeap.put_ne (by omega)]
    exact congrArg (fun o => putC o 0 _) (AHeap.alloc_self _ _)
  · exact ((z1.alloc.alloc.alloc).put' (by rw [at_off]; omega)).put' (by rw [at_off]; omega)
  · exact ((z2.alloc.alloc).put' (by rw [at_off]; omega)).put' (by rw [at_off]; omega)
  · exact (((((Ext.refl G).allocs _).allocs _).allocs _).allocs _ |>.put (by omega)).put (by omega)

theorem TS.begin {E : Nat → Nat → Prop} {N : Nat} : TS E N (fun _ => False) (fi (List.replicate N 0)) (fi (List.replicate N (-1))) [] 1 := by
  have z : ∀ v, fi (List.replicate N 0) v = 0 := fun v => by
    simp only [fi, List.getD_eq_getElem?_getD, List.getElem?_replicate]; split <;> rfl
  have o : ∀ v, v < N → fi (List.replicate N (-1)) v = -1 := fun v hv => by
    simp [fi, List.getD_eq_getElem?_getD, List.getElem?_replicate, hv]
  exact ⟨fun v _ => by rw [z]; omega, fun v => ⟨fun h => by simp at h, fun h => by have := z v; omega⟩, List.Pairwise.nil, fun v h => h.elim, fun v w _ h => by have := z v; omega, fun x y h => by simp at h, fun y h => by simp at h, fun v hv h => by have := o v hv; omega, fun v w hv h => by have := o v hv; omega, fun v hv => by have := o v hv; omega⟩
theorem cnt0_zeros {N : Nat} : cnt0 (List.replicate N 0) = N := by
  unfold cnt0; rw [List.countP_replicate]; simp

theorem implComponents_rets {g : GV} {x : GD} (hg : GArr H g x) (hx : x.size ≤ 2 ^ 60) : Rets Go.Proofs.Try.prog w0 15 [g.v] H fun v H' => CompRes H H' v x := by
  refine rets_fun rfl cf_i_Components (body_of ?_)
  have hE0 : Ext H (H.alloc (.cells g.cs 28)) := Ext.alloc _ _
  have hb0 : (H.alloc (.cells g.cs 28)).get H.n = .cells g.cs 28 := AHeap.alloc_self _ _
  have hn0 : (H.alloc (.cells g.cs 28)).n = H.n + 1 := rfl
  simp -implicitDefEqProofs (disch := first | assumption | exact id rfl | omega | (simp only [AHeap.alloc_n, AHeap.put_n, SV.put_n, AHeap.kill_n, ne_eq, List.length_cons, List.length_nil]; omega)) only [i_Components_0, i_Components_1, SXs, cond_true, cond_false, env0, List.getElem?_cons_zero, List.getElem?_cons_succ, Nat.reduceEqDiff, if_true, if_false, ↓reduceIte, Nat.reduceAdd, Nat.zero_add, Nat.add_zero, Nat.mul_one, reduceCtorEq, boxO_agg]
  generalize H.alloc (.cells g.cs 28) = G0 at *
  simp -implicitDefEqProofs (disch := first | assumption | exact id rfl | omega | (simp only [AHeap.alloc_n, AHeap.put_n, SV.put_n, AHeap.kill_n, ne_eq, List.length_cons, List.length_nil]; omega)) only [i_Components_2, i_Components_3, i_Components_4, i_Components_5, CW_cond, SXs, cond_true, cond_false, env0, List.getElem?_cons_zero, List.getElem?_cons_succ, Nat.reduceEqDiff, if_true, if_false, ↓reduceIte, Nat.reduceAdd, Nat.zero_add, Nat.add_zero, Nat.mul_one, reduceCtorEq, ldnO_at, hb0, ldnC_cells, gv_seg, Option.map_some]
  refine (implValidGraph_rets (hg.ext hE0) hx).mono ?_
  rintro _ G1 hn1 ⟨⟨bb, rfl, hbb⟩, hE1⟩
  have hE := hE0.trans hE1
  have hb : G1.get H.n = .cells g.cs 28 := by rw [hE1.2 _ (by omega)]; exact hb0
  rw [hn0] at hn1
  by_cases ok : x.Ok
  case neg =>
    have : bb = false := by cases bb with
      | false => rfl
      | true => exact absurd (hbb.1 rfl) ok
    subst this
    simp -implicitDefEqProofs (disch := first | assumption | exact id rfl | omega | (simp only [AHeap.alloc_n, AHeap.put_n, SV.put_n, AHeap.kill_n, ne_eq, List.length_cons, List.length_nil]; omega)) only [SXs, cond_true, cond_false, env0, List.getElem?_cons_zero, List.getElem?_cons_succ, Nat.reduceEqDiff, if_true, if_false, ↓reduceIte, Nat.reduceAdd, Nat.zero_add, Nat.add_zero, Nat.mul_one, reduceCtorEq, Bool.not_false, condK_true, i_Components_6, i_Components_7, aop_ld, aop_ldn, bodyK_ret, bodyK_normal, resL, resV, Option.map_some, oneV, blockK_exit, seqK_exit, seqK_ret, blockK_ret, loopK_exit, loopK_ret, rs_i_Components, aop_ld, aop_ldn, bodyK_ret, bodyK_normal, resL, resV, Option.map_some, oneV, blockK_exit, seqK_exit, seqK_ret, blockK_ret, loopK_exit, loopK_ret]
    exact ⟨.nil, [], 1, rfl, Own.nil, hE, fun _ _ => trivial, .inr ⟨ok, rfl, rfl⟩⟩
  have : bb = true := hbb.2 ok
  subst this
  obtain ⟨N, hN⟩ : ∃ N : Nat, x.n = N := ⟨x.n.toNat, by have := ok.n; omega⟩
  have hN' : x.n.toNat = N := by omega
  have hgn := hg.n
  rw [hN] at hgn
  have o_n := ok.n
  rw [hN] at o_n
  obtain ⟨es, hes⟩ := edges_ex ok
  clear hE0 hE1 hb0 hbb
  obtain ⟨G2, hG2, hn2, hI, hL, oI, oL, hE2⟩ := two_st G1 (List.replicate N 0) N (by simp)
  simp -implicitDefEqProofs (disch := first | assumption | exact id rfl | omega | (simp only [AHeap.alloc_n, AHeap.put_n, SV.put_n, AHeap.kill_n, ne_eq, List.length_cons, List.length_nil]; omega)) only [SXs, cond_true, cond_false, env0, List.getElem?_cons_zero, List.getElem?_cons_succ, Nat.reduceEqDiff, if_true, if_false, ↓reduceIte, Nat.reduceAdd, Nat.zero_add, Nat.add_zero, Nat.mul_one, reduceCtorEq, Bool.not_true, condK_false, i_Components_8, i_Components_9, DXs, and_true, true_and, Nat.reduceSub, List.length_cons, List.length_nil, ldO_at, hb, ldC_cells, GV.get0, hgn, Option.map_some, mksO_n, zeros, HXs, Option.map_some, List.length_cons, List.length_nil, List.take_succ_cons, List.take_zero, List.drop_succ_cons, List.drop_zero, List.cons_append, List.nil_append, hG2]
  have hHG : H.n < G1.n := by omega
  have hbR : ∀ R, Ext G1 R → R.get H.n = .cells g.cs 28 := fun R h => by rw [h.2 _ hHG]; exact hb
  have hER := hE2.allocs (.cells [iv (-1)] 3)
  have hE2R := Ext.alloc G2 (.cells [iv (-1)] 3)
  have hm1 : IArr (G2.alloc (.cells [iv (-1)] 3)) (.at G2.n 0 1) [-1] := (Own.new (cs := ints [-1]) (by simp [ints])).arr
  have hnR : (G2.alloc (.cells [iv (-1)] 3)).n = G2.n + 1 := rfl
  have hb3 := hbR _ hER
  simp -implicitDefEqProofs (disch := first | assumption | exact id rfl | omega | (simp only [AHeap.alloc_n, AHeap.put_n, SV.put_n, AHeap.kill_n, ne_eq, List.length_cons, List.length_nil]; omega)) only [i_Components_10, i_Components_11, i_Components_12, i_Components_13, i_Components_14, i_Components_15, i_Components_16, i_Components_17, i_Components_18, i_Components_19, i_Components_20, i_Components_21, i_Components_22, i_Components_23, i_Components_24, SXs, cond_true, cond_false, env0, List.getElem?_cons_zero, List.getElem?_cons_succ, Nat.reduceEqDiff, if_true, if_false, ↓reduceIte, Nat.reduceAdd, Nat.zero_add, Nat.add_zero, Nat.mul_one, reduceCtorEq, mk_int, ldO_at, hb3, ldC_cells, GV.get0, hgn, Option.map_some]
  generalize G2.alloc (.cells [iv (-1)] 3) = R at *
  refine (repeat_rets hm1 (by omega)).mono ?_
  rintro _ G3 hn3 ⟨rfl, oO, hE3⟩
  have hRn := oO.lt
  have hRn : R.n < G3.n := hRn
  obtain ⟨G4, hG4, hn4, hO, hE4⟩ := box_st G3 (.slice none 0 0) (SV.at R.n 0 N).v 22
  have hE5 := Ext.alloc G4 (.cells [] 3)
  have hn5 : (G4.alloc (.cells [] 3)).n = G4.n + 1 := rfl
  have oS : IOwn (G4.alloc (.cells [] 3)) (.at G4.n 0 0) (zs []) := Own.new (cs := ints (zs [])) (by simp [ints, zs])
  have mk0 : ∀ G : AHeap, mkslO 3 1 0 [] (some []) G = some ((SV.at G.n 0 0).v, G.alloc (.cells [] 3)) := fun G => rfl
  obtain ⟨G6, hG6, hn6, hS, hE6⟩ := box_st (G4.alloc (.cells [] 3)) (.slice none 0 0) (SV.at G4.n 0 0).v 22
  obtain ⟨G7, hG7, hn7, hNx, hE7⟩ := box_st G6 (.int .i64 0) (.int .i64 1) 3
  simp -implicitDefEqProofs (disch := first | assumption | exact id rfl | omega | (simp only [AHeap.alloc_n, AHeap.put_n, SV.put_n, AHeap.kill_n, ne_eq, List.length_cons, List.length_nil]; omega)) only [SXs, cond_true, cond_false, env0, List.getElem?_cons_zero, List.getElem?_cons_succ, Nat.reduceEqDiff, if_true, if_false, ↓reduceIte, Nat.reduceAdd, Nat.zero_add, Nat.add_zero, Nat.mul_one, reduceCtorEq, stO_at, alloc_at, stC_s, stC_int, List.length_cons, List.length_nil, hG4, mk0, hG6, hG7]
  obtain ⟨L, hL'⟩ : ∃ L : CLay, L = ⟨H.n, H.n, G1.n, G1.n + 1, G1.n + 1 + 1, G1.n + 1 + 1 + 1, R.n, G3.n, (G4.alloc (.cells [] 3)).n, G6.n, G7.n, N, by omega⟩ := ⟨_, rfl⟩
  obtain ⟨G8, hG8, hn8, hV, hE8⟩ := box_st G7 .nilFunc (VISIT L) 58
  have hLV : VISIT L = Value.func (Fn.func 28) #[] #[pt G6.n 0, pt (G1.n + 1 + 1) 0, pt (G1.n + 1 + 1 + 1) 0, pt (G4.alloc (.cells [] 3)).n 0, pt H.n 0, pt G7.n 0, pt G3.n 0] := by rw [hL']
  have hLG : L.kI = G1.n + 1 + 1 ∧ L.kO = G3.n ∧ L.kV = G7.n ∧ L.N = N ∧ L.aO = R.n := by rw [hL']; exact ⟨rfl, rfl, rfl, rfl, rfl⟩
  have x78 := hE8
  have x68 := hE7.trans x78
  have x58 := hE6.trans x68
  have x48 := hE5.trans x58
  have x38 := hE4.trans x48
  have xR8 := hE3.trans x38
  have x28 := hE2R.trans xR8
  have x18 := hE2.trans x28
  have hF : CF L g H G8 (List.replicate N 0) (List.replicate N 0) (List.replicate N (-1)) [] 1 := by
    refine ⟨?_, ?_, ?_, ⟨.at G4.n 0 0, ?_, oS.ext x58, fun k hk => ?_⟩, ?_, ?_, ?_, ?_, ?_, ?_, ?_, ?_, ?_, ?_, hE.trans x18⟩
    · rw [hL']; show G8.get G6.n = _; rw [x78.2 _ (by omega)]; exact hNx
    · rw [hL']; show G8.get (G1.n + 1 + 1) = _; rw [x28.2 _ (by omega)]; exact hI
    · rw [hL']; show G8.get (G1.n + 1 + 1 + 1) = _; rw [x28.2 _ (by omega)]; exact hL
    · rw [hL']; show G8.get (G4.alloc (.cells [] 3)).n = _; rw [x68.2 _ (by omega)]; exact hS
    · rw [hL'] at hk
      unfold CLay.has at hk
      simp only [AHeap.alloc_n] at hk
      rw [at_off]; omega
    · rw [hL']; exact hbR _ x18
    · have : L.kV = G7.n := hLG.2.2.1
      rw [this]; exact hV
    · rw [hL']; show G8.get G3.n = _; rw [x48.2 _ (by omega)]; exact hO
    · rw [hL']; exact oI.ext x28
    · rw [hL']; exact oL.ext x28
    · rw [hL']; exact oO.ext x38
    · rw [hL']; simp
    · rw [hL']; simp
    · rw [hL']; simp
    · rw [hL']
  have hb8 := hbR _ x18
  have stf : ∀ (a b : Array Value), stC 1 (G7.alloc (.cells [.nilFunc] 58)) G7.n (.cells [.nilFunc] 58) 0 (.func (.func 28) a b) = some (.tuple #[], (G7.alloc (.cells [.nilFunc] 58)).put G7.n 0 [.func (.func 28) a b]) := fun a b => stC_func (by simp)
  rw [hLV] at hG8
  simp -implicitDefEqProofs (disch := first | assumption | exact id rfl | omega | (simp only [AHeap.alloc_n, AHeap.put_n, SV.put_n, AHeap.kill_n, ne_eq, List.length_cons, List.length_nil]; omega)) only [SXs, cond_true, cond_false, env0, List.getElem?_cons_zero, List.getElem?_cons_succ, Nat.reduceEqDiff, if_true, if_false, ↓reduceIte, Nat.reduceAdd, Nat.zero_add, Nat.add_zero, Nat.mul_one, reduceCtorEq, stf, hG8, hb8, ldC_cells, GV.get0, hgn, Option.map_some]
  obtain ⟨hkI, hkO, hkV, hLN, haO⟩ := hLG
  rw [← hkI, ← hkO, ← hkV]
  have hHR : H.n < R.n := by omega
  rw [← haO] at hHR
  have hNL : x.n = L.N := by omega
  clear hL' hE hE2 hE2R hE3 hE4 hE5 hE6 hE7 hE8 x78 x68 x58 x48 x38 xR8 x28 x18 hG2 hG4 hG6 hG7 hG8 hI hL hO hS hNx hV oI oL oO oS hLV stf hm1 hbR hb8 hb3 hER mk0
  refine CW_midq (fun e G => ∃ (ix lo ou : List Int) (stk : List Nat) (nx : Int), e 6 = some (pt L.kO 0) ∧ CF L g H G ix lo ou stk nx ∧ TS (ER es) N (fun _ => False) (fi ix) (fi ou) stk nx ∧ ∀ v, v < N → 0 < fi ix v) ?_ ?_
  · refine CW_inv (fun n e G => ∃ (i : Nat) (ix lo ou : List Int) (stk : List Nat) (nx : Int), n = N - i ∧ i ≤ N ∧ e 4 = some (pt L.kI 0) ∧ e 6 = some (pt L.kO 0) ∧ e 9 = some (pt L.kV 0) ∧ e 27 = some (iv N) ∧ e 28 = some (iv i) ∧ CF L g H G ix lo ou stk nx ∧ TS (ER es) N (fun _ => False) (fi ix) (fi ou) stk nx ∧ 0 < nx ∧ nx + cnt0 ix = N + 1 ∧ ∀ v, v < i → 0 < fi ix v) N
      ⟨0, _, _, _, _, _, by simp, by omega, rfl, rfl, rfl, rfl, rfl, hF, TS.begin, by omega, by rw [cnt0_zeros]; omega, fun v hv => by omega⟩ ?_
    clear hF
    rintro n e G ⟨i, ix, lo, ou, stk, nx, hn, hi, e4, e6, e9, e27, e28, hF, hT, hnx, hq, hv⟩
    simp -implicitDefEqProofs (disch := first | assumption | exact id rfl | omega | (simp only [AHeap.alloc_n, AHeap.put_n, SV.put_n, AHeap.kill_n, ne_eq, List.length_cons, List.length_nil]; omega)) only [i_Components_25, i_Components_26, i_Components_27, i_Components_28, CW_cond, SXs, cond_true, cond_false, env0, List.getElem?_cons_zero, List.getElem?_cons_succ, Nat.reduceEqDiff, if_true, if_false, ↓reduceIte, Nat.reduceAdd, Nat.zero_add, Nat.add_zero, Nat.mul_one, reduceCtorEq, e27, e28]
    refine condK_of (fun h => ?_) (fun h => ?_) <;> simp only [decide_eq_true_eq, decide_eq_false_iff_not, bne_iff_ne, ne_eq, bne_eq_false_iff_eq, beq_iff_eq, beq_eq_false_iff_ne, Bool.not_eq_true, Bool.not_eq_eq_eq_not, Bool.not_true, Bool.not_false, Classical.not_not, Int.not_lt, Int.not_le] at h
    · have hiN : i < L.N := by omega
      have hil : i < ix.length := by rw [hF.li]; exact hiN
      simp -implicitDefEqProofs (disch := first | assumption | exact id rfl | omega | (simp only [AHeap.alloc_n, AHeap.put_n, SV.put_n, AHeap.kill_n, ne_eq, List.length_cons, List.length_nil]; omega)) only [i_Components_29, i_Components_30, i_Components_31, i_Components_32, i_Components_33, i_Components_34, i_Components_35, CW_cond, SXs, cond_true, cond_false, env0, List.getElem?_cons_zero, List.getElem?_cons_succ, Nat.reduceEqDiff, if_true, if_false, ↓reduceIte, Nat.reduceAdd, Nat.zero_add, Nat.add_zero, Nat.mul_one, reduceCtorEq, e4, e28, hF.ldI, at_ia, iarr_ld hF.oi.arr]
      refine condK_of (fun h2 => ?_) (fun h2 => ?_) <;> simp only [decide_eq_true_eq, decide_eq_false_iff_not, bne_iff_ne, ne_eq, bne_eq_false_iff_eq, beq_iff_eq, beq_eq_false_iff_ne, Bool.not_eq_true, Bool.not_eq_eq_eq_not, Bool.not_true, Bool.not_false, Classical.not_not, Int.not_lt, Int.not_le] at h2
      · simp -implicitDefEqProofs (disch := first | assumption | exact id rfl | omega | (simp only [AHeap.alloc_n, AHeap.put_n, SV.put_n, AHeap.kill_n, ne_eq, List.length_cons, List.length_nil]; omega)) only [i_Components_36, i_Components_37, SXs, cond_true, cond_false, env0, List.getElem?_cons_zero, List.getElem?_cons_succ, Nat.reduceEqDiff, if_true, if_false, ↓reduceIte, Nat.reduceAdd, Nat.zero_add, Nat.add_zero, Nat.mul_one, reduceCtorEq, e9, hF.ldV, visit_able, true_and, List.append_nil, List.nil_append, List.cons_append, List.toList_toArray]
        refine (visit_rets (gr := fun _ => False) hg ok hes hNL _ rfl hiN hF (by rw [hLN]; exact hT) h2 hnx (by omega) (fun v hv => hv.elim)).mono ?_
        rintro _ G' hn' ⟨ix', lo', ou', s2, nx', hF', hP, hq'⟩
        rw [hLN] at hP
        have hnx' := hP.nxk
        simp -implicitDefEqProofs (disch := first | assumption | exact id rfl | omega | (simp only [AHeap.alloc_n, AHeap.put_n, SV.put_n, AHeap.kill_n, ne_eq, List.length_cons, List.length_nil]; omega)) only [SXs, cond_true, cond_false, env0, List.getElem?_cons_zero, List.getElem?_cons_succ, Nat.reduceEqDiff, if_true, if_false, ↓reduceIte, Nat.reduceAdd, Nat.zero_add, Nat.add_zero, Nat.mul_one, reduceCtorEq, e28]
        refine ⟨N - (i + 1), by omega, i + 1, _, _, _, _, _, rfl, by omega, e4, e6, e9, e27, rfl, hF', hP.wf, by omega, by omega, fun v hvi => ?_⟩
        by_cases hvi' : v = i
        · subst hvi'; exact hP.vis
        · have h3 := hv v (by omega)
          rw [hP.ixk v (by omega) h3]; exact h3
      · simp -implicitDefEqProofs (disch := first | assumption | exact id rfl | omega | (simp only [AHeap.alloc_n, AHeap.put_n, SV.put_n, AHeap.kill_n, ne_eq, List.length_cons, List.length_nil]; omega)) only [i_Components_37, SXs, cond_true, cond_false, env0, List.getElem?_cons_zero, List.getElem?_cons_succ, Nat.reduceEqDiff, if_true, if_false, ↓reduceIte, Nat.reduceAdd, Nat.zero_add, Nat.add_zero, Nat.mul_one, reduceCtorEq, e28]
        refine ⟨N - (i + 1), by omega, i + 1, _, _, _, _, _, rfl, by omega, e4, e6, e9, e27, rfl, hF, hT, hnx, hq, fun v hvi => ?_⟩
        by_cases hvi' : v = i
        · subst hvi'
          have := (hT.ixn v (by omega)).1
          unfold fi at this ⊢; omega
        · exact hv v (by omega)
    · have hiN : i = N := by omega
      subst hiN
      exact ⟨ix, lo, ou, stk, nx, (by first | trivial | assumption), hF, hT, hv⟩
  · clear hF
    rintro e G hn ⟨ix, lo, ou, stk, nx, e6, hF, hT, hv⟩
    simp -implicitDefEqProofs (disch := first | assumption | exact id rfl | omega | (simp only [AHeap.alloc_n, AHeap.put_n, SV.put_n, AHeap.kill_n, ne_eq, List.length_cons, List.length_nil]; omega)) only [i_Components_38, i_Components_39, aop_ld, aop_ldn, bodyK_ret, bodyK_normal, resL, resV, Option.map_some, oneV, blockK_exit, seqK_exit, seqK_ret, blockK_ret, loopK_exit, loopK_ret, rs_i_Components, SXs, cond_true, cond_false, env0, List.getElem?_cons_zero, List.getElem?_cons_succ, Nat.reduceEqDiff, if_true, if_false, ↓reduceIte, Nat.reduceAdd, Nat.zero_add, Nat.add_zero, Nat.mul_one, reduceCtorEq, aop_ld, aop_ldn, bodyK_ret, bodyK_normal, resL, resV, Option.map_some, oneV, blockK_exit, seqK_exit, seqK_ret, blockK_ret, loopK_exit, loopK_ret, e6, hF.ldO]
    refine ⟨_, ou, 0, rfl, hF.oo, hF.e, fun k hk => by rw [at_off]; omega, .inl ⟨ok, rfl, es, hes, ?_⟩⟩
    rw [hN']
    exact hT.done (by rw [hF.lo']; exact hLN) hv
end Go.AB
