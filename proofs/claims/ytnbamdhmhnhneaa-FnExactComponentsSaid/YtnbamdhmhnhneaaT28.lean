/- The law of components. (Printed by mkt28.py.) -/
import Derived.Test.YtnbamdhmhnhneaaT12
import Derived.Test.YtnbamdhmhnhneaaT27
set_option linter.unusedVariables false
set_option linter.unusedSimpArgs false
set_option maxRecDepth 10000
set_option maxHeartbeats 2000000
namespace Go.AB
open Go.Proofs
variable {w0 : World} {H : AHeap}

theorem lawComponents_rets {g : GV} {x : GD} (hg : GArr H g x) (hx : x.size ≤ 2 ^ 60) : Rets Go.Proofs.Try.prog w0 4 [g.v] H fun v H' => v = .bool true := by
  refine rets_fun rfl cf_l_FnExactComponents (body_of ?_)
  have hE0 : Ext H (H.alloc (.cells g.cs 24)) := Ext.alloc _ _
  have hb0 : (H.alloc (.cells g.cs 24)).get H.n = .cells g.cs 24 := AHeap.alloc_self _ _
  have hn0 : (H.alloc (.cells g.cs 24)).n = H.n + 1 := rfl
  simp -implicitDefEqProofs (disch := first | assumption | exact id rfl | omega | (simp only [AHeap.alloc_n, AHeap.put_n, SV.put_n, AHeap.kill_n, ne_eq, List.length_cons, List.length_nil]; omega)) only [l_FnExactComponents_0, l_FnExactComponents_1, SXs, cond_true, cond_false, env0, List.getElem?_cons_zero, List.getElem?_cons_succ, Nat.reduceEqDiff, if_true, if_false, ↓reduceIte, Nat.reduceAdd, Nat.zero_add, Nat.add_zero, Nat.mul_one, reduceCtorEq, boxO_agg]
  generalize H.alloc (.cells g.cs 24) = G0 at *
  have hg0 := hg.ext hE0
  simp -implicitDefEqProofs (disch := first | assumption | exact id rfl | omega | (simp only [AHeap.alloc_n, AHeap.put_n, SV.put_n, AHeap.kill_n, ne_eq, List.length_cons, List.length_nil]; omega)) only [l_FnExactComponents_2, l_FnExactComponents_3, l_FnExactComponents_4, l_FnExactComponents_5, l_FnExactComponents_6, l_FnExactComponents_7, l_FnExactComponents_8, l_FnExactComponents_9, CW_cond, SXs, cond_true, cond_false, env0, List.getElem?_cons_zero, List.getElem?_cons_succ, Nat.reduceEqDiff, if_true, if_false, ↓reduceIte, Nat.reduceAdd, Nat.zero_add, Nat.add_zero, Nat.mul_one, reduceCtorEq, ldnO_at, hb0, ldnC_cells, gv_seg, Option.map_some]
  refine (szGraph_rets hg0 hx ⟨by omega, by omega⟩).mono ?_
  rintro _ G1 hn1 ⟨rfl, hE1⟩
  simp -implicitDefEqProofs (disch := first | assumption | exact id rfl | omega | (simp only [AHeap.alloc_n, AHeap.put_n, SV.put_n, AHeap.kill_n, ne_eq, List.length_cons, List.length_nil]; omega)) only [SXs, cond_true, cond_false, env0, List.getElem?_cons_zero, List.getElem?_cons_succ, Nat.reduceEqDiff, if_true, if_false, ↓reduceIte, Nat.reduceAdd, Nat.zero_add, Nat.add_zero, Nat.mul_one, reduceCtorEq]
  by_cases hsz : (1048576 : Int) - x.size < 0
  · simp -implicitDefEqProofs (disch := first | assumption | exact id rfl | omega | (simp only [AHeap.alloc_n, AHeap.put_n, SV.put_n, AHeap.kill_n, ne_eq, List.length_cons, List.length_nil]; omega)) only [if_pos hsz, SXs, cond_true, cond_false, env0, List.getElem?_cons_zero, List.getElem?_cons_succ, Nat.reduceEqDiff, if_true, if_false, ↓reduceIte, Nat.reduceAdd, Nat.zero_add, Nat.add_zero, Nat.mul_one, reduceCtorEq]
    refine condK_of (fun h => ?_) (fun h => by simp at h)
    simp -implicitDefEqProofs (disch := first | assumption | exact id rfl | omega | (simp only [AHeap.alloc_n, AHeap.put_n, SV.put_n, AHeap.kill_n, ne_eq, List.length_cons, List.length_nil]; omega)) only [l_FnExactComponents_10, l_FnExactComponents_11, aop_ld, aop_ldn, bodyK_ret, bodyK_normal, resL, resV, Option.map_some, oneV, blockK_exit, seqK_exit, seqK_ret, blockK_ret, loopK_exit, loopK_ret, rs_l_FnExactComponents, SXs, cond_true, cond_false, env0, List.getElem?_cons_zero, List.getElem?_cons_succ, Nat.reduceEqDiff, if_true, if_false, ↓reduceIte, Nat.reduceAdd, Nat.zero_add, Nat.add_zero, Nat.mul_one, reduceCtorEq, aop_ld, aop_ldn, bodyK_ret, bodyK_normal, resL, resV, Option.map_some, oneV, blockK_exit, seqK_exit, seqK_ret, blockK_ret, loopK_exit, loopK_ret]
  simp -implicitDefEqProofs (disch := first | assumption | exact id rfl | omega | (simp only [AHeap.alloc_n, AHeap.put_n, SV.put_n, AHeap.kill_n, ne_eq, List.length_cons, List.length_nil]; omega)) only [if_neg hsz, SXs, cond_true, cond_false, env0, List.getElem?_cons_zero, List.getElem?_cons_succ, Nat.reduceEqDiff, if_true, if_false, ↓reduceIte, Nat.reduceAdd, Nat.zero_add, Nat.add_zero, Nat.mul_one, reduceCtorEq]
  refine condK_of (fun h => by simp at h; omega) (fun h => ?_)
  clear h
  have hx2 : x.size ≤ 2 ^ 20 := by omega
  have hb1 : G1.get H.n = .cells g.cs 24 := by rw [hE1.2 _ (by omega)]; exact hb0
  have hg1 := hg0.ext hE1
  clear hE0 hE1 hb0 hg0 hx hsz hg
  simp -implicitDefEqProofs (disch := first | assumption | exact id rfl | omega | (simp only [AHeap.alloc_n, AHeap.put_n, SV.put_n, AHeap.kill_n, ne_eq, List.length_cons, List.length_nil]; omega)) only [l_FnExactComponents_12, l_FnExactComponents_13, l_FnExactComponents_14, l_FnExactComponents_15, l_FnExactComponents_16, l_FnExactComponents_17, l_FnExactComponents_18, l_FnExactComponents_19, l_FnExactComponents_20, l_FnExactComponents_21, CW_cond, SXs, cond_true, cond_false, env0, List.getElem?_cons_zero, List.getElem?_cons_succ, Nat.reduceEqDiff, if_true, if_false, ↓reduceIte, Nat.reduceAdd, Nat.zero_add, Nat.add_zero, Nat.mul_one, reduceCtorEq, ldnO_at, hb1, ldnC_cells, gv_seg, Option.map_some]
  refine (toGraph_rets hg1 (by omega)).mono ?_
  rintro _ G2 hn2 ⟨a, rfl, ha, hE2, hao⟩
  refine (specComponents_rets ha.arr (by omega)).mono ?_
  rintro _ G3 hn3 ⟨w1, ds, c, rfl, hw1, hE3, hwo, hR⟩
  have hE23 := hE2.trans hE3
  have hb3 : G3.get H.n = .cells g.cs 24 := by rw [hE23.2 _ (by omega)]; exact hb1
  have hg3 := hg1.ext hE23
  have hl1 := hR.len
  have x0 : ∀ (a : SV) (c : Int) (G : AHeap), extO 0 G (some (.tuple #[a.v, iv c])) = some (a.v, G) := fun _ _ _ => rfl
  have x1 : ∀ (a : SV) (c : Int) (G : AHeap), extO 1 G (some (.tuple #[a.v, iv c])) = some (iv c, G) := fun _ _ _ => rfl
  simp -implicitDefEqProofs (disch := first | assumption | exact id rfl | omega | (simp only [AHeap.alloc_n, AHeap.put_n, SV.put_n, AHeap.kill_n, ne_eq, List.length_cons, List.length_nil]; omega)) only [l_FnExactComponents_14, l_FnExactComponents_15, l_FnExactComponents_16, l_FnExactComponents_17, l_FnExactComponents_18, l_FnExactComponents_19, l_FnExactComponents_20, l_FnExactComponents_21, CW_cond, SXs, cond_true, cond_false, env0, List.getElem?_cons_zero, List.getElem?_cons_succ, Nat.reduceEqDiff, if_true, if_false, ↓reduceIte, Nat.reduceAdd, Nat.zero_add, Nat.add_zero, Nat.mul_one, reduceCtorEq, x0, x1, ldnO_at, hb3, ldnC_cells, gv_seg, Option.map_some]
  clear ha hao a
  -- what goes to the implementation
  refine (toGraph_rets hg3 (by omega)).mono ?_
  rintro _ G4 hn4 ⟨a, rfl, ha, hE4, hao⟩
  have hst : ∀ (G' : AHeap) (b : Nat) (w : GV), stC 5 G' b (.cells [.int .i64 0, .slice none 0 0, .slice none 0 0, .slice none 0 0, .slice none 0 0] 28) 0 (.agg w.cs.toArray) = some (.tuple #[], G'.put b 0 w.cs) := fun G' b w => stC_agg (by simp [GV.cs_len]) (by simp)
  have hq5 : ((G4.alloc (.cells [.int .i64 0, .slice none 0 0, .slice none 0 0, .slice none 0 0, .slice none 0 0] 28)).put G4.n 0 a.cs).get G4.n = .cells a.cs 28 := by
    rw [put_at, AHeap.alloc_self]; simp only [putC_cells]; congr 1
  have hE5 : Ext G4 ((G4.alloc (.cells [.int .i64 0, .slice none 0 0, .slice none 0 0, .slice none 0 0, .slice none 0 0] 28)).put G4.n 0 a.cs) := ((Ext.refl G4).allocs _).put (Nat.le_refl _)
  have hn5 : ((G4.alloc (.cells [.int .i64 0, .slice none 0 0, .slice none 0 0, .slice none 0 0, .slice none 0 0] 28)).put G4.n 0 a.cs).n = G4.n + 1 := by rw [AHeap.put_n]; rfl
  simp -implicitDefEqProofs (disch := first | assumption | exact id rfl | omega | (simp only [AHeap.alloc_n, AHeap.put_n, SV.put_n, AHeap.kill_n, ne_eq, List.length_cons, List.length_nil]; omega)) only [SXs, cond_true, cond_false, env0, List.getElem?_cons_zero, List.getElem?_cons_succ, Nat.reduceEqDiff, if_true, if_false, ↓reduceIte, Nat.reduceAdd, Nat.zero_add, Nat.add_zero, Nat.mul_one, reduceCtorEq, stO_at, alloc_at, hst]
  generalize (G4.alloc (.cells [.int .i64 0, .slice none 0 0, .slice none 0 0, .slice none 0 0, .slice none 0 0] 28)).put G4.n 0 a.cs = G5 at *
  simp -implicitDefEqProofs (disch := first | assumption | exact id rfl | omega | (simp only [AHeap.alloc_n, AHeap.put_n, SV.put_n, AHeap.kill_n, ne_eq, List.length_cons, List.length_nil]; omega)) only [SXs, cond_true, cond_false, env0, List.getElem?_cons_zero, List.getElem?_cons_succ, Nat.reduceEqDiff, if_true, if_false, ↓reduceIte, Nat.reduceAdd, Nat.zero_add, Nat.add_zero, Nat.mul_one, reduceCtorEq, ldnO_at, hq5, ldnC_cells, gv_seg, Option.map_some]
  refine (implComponents_rets (ha.ext hE5).arr (by omega)).mono ?_
  rintro _ G6 hn6 ⟨g1, ds', c', rfl, hv1, hE6, hvo, hR'⟩
  obtain ⟨rfl, rfl⟩ := hR.uniq hR'
  clear hR'
  have hE46 := hE5.trans hE6
  have hE36 := hE4.trans hE46
  have hwl1 := hw1.lt
  have hvl1 := hv1.lt
  have ha6 := ha.ext hE46
  have hw16 := hw1.ext hE36
  have hq6 : G6.get G4.n = .cells a.cs 28 := by rw [hE6.2 _ (by omega)]; exact hq5
  have hb6 : G6.get H.n = .cells g.cs 24 := by rw [hE36.2 _ (by omega)]; exact hb3
  have hg6 := hg3.ext hE36
  have nn : ∀ n : Int, (n != n) = false := fun n => by simp
  simp -implicitDefEqProofs (disch := first | assumption | exact id rfl | omega | (simp only [AHeap.alloc_n, AHeap.put_n, SV.put_n, AHeap.kill_n, ne_eq, List.length_cons, List.length_nil]; omega)) only [SXs, cond_true, cond_false, env0, List.getElem?_cons_zero, List.getElem?_cons_succ, Nat.reduceEqDiff, if_true, if_false, ↓reduceIte, Nat.reduceAdd, Nat.zero_add, Nat.add_zero, Nat.mul_one, reduceCtorEq, x0, x1]
  refine (eqIntS_rets hv1.arr hw16.arr (by omega)).mono ?_
  rintro _ G6 _ ⟨rfl, rfl⟩
  simp -implicitDefEqProofs (disch := first | assumption | exact id rfl | omega | (simp only [AHeap.alloc_n, AHeap.put_n, SV.put_n, AHeap.kill_n, ne_eq, List.length_cons, List.length_nil]; omega)) only [SXs, cond_true, cond_false, env0, List.getElem?_cons_zero, List.getElem?_cons_succ, Nat.reduceEqDiff, if_true, if_false, ↓reduceIte, Nat.reduceAdd, Nat.zero_add, Nat.add_zero, Nat.mul_one, reduceCtorEq, decide_true, Bool.not_true, nn, condK_false]
  simp -implicitDefEqProofs (disch := first | assumption | exact id rfl | omega | (simp only [AHeap.alloc_n, AHeap.put_n, SV.put_n, AHeap.kill_n, ne_eq, List.length_cons, List.length_nil]; omega)) only [l_FnExactComponents_24, l_FnExactComponents_25, l_FnExactComponents_26, l_FnExactComponents_27, CW_cond, DXs, and_true, true_and, Nat.reduceSub, List.length_cons, List.length_nil, SXs, cond_true, cond_false, env0, List.getElem?_cons_zero, List.getElem?_cons_succ, Nat.reduceEqDiff, if_true, if_false, ↓reduceIte, Nat.reduceAdd, Nat.zero_add, Nat.add_zero, Nat.mul_one, reduceCtorEq, ldnO_at, hq6, hb6, ldnC_cells, gv_seg, Option.map_some]
  refine (toGraph_rets hg6 (by omega)).mono ?_
  rintro _ G7 hn7 ⟨a2, rfl, ha2, hE7, -⟩
  refine (eqGraph_rets (ha6.ext hE7).arr ha2.arr (by omega)).mono ?_
  rintro _ G8 hn8 ⟨rfl, hE8⟩
  simp -implicitDefEqProofs (disch := first | assumption | exact id rfl | omega | (simp only [AHeap.alloc_n, AHeap.put_n, SV.put_n, AHeap.kill_n, ne_eq, List.length_cons, List.length_nil]; omega)) only [DXs, and_true, true_and, Nat.reduceSub, List.length_cons, List.length_nil, SXs, cond_true, cond_false, env0, List.getElem?_cons_zero, List.getElem?_cons_succ, Nat.reduceEqDiff, if_true, if_false, ↓reduceIte, Nat.reduceAdd, Nat.zero_add, Nat.add_zero, Nat.mul_one, reduceCtorEq, decide_true, Bool.not_true]
  refine ⟨(hE7.2 G4.n (by omega)).trans hq6, ?_⟩
  have hE68 := hE7.trans hE8
  have hq8 : G8.get G4.n = .cells a.cs 28 := by rw [hE68.2 _ (by omega)]; exact hq6
  simp -implicitDefEqProofs (disch := first | assumption | exact id rfl | omega | (simp only [AHeap.alloc_n, AHeap.put_n, SV.put_n, AHeap.kill_n, ne_eq, List.length_cons, List.length_nil]; omega)) only [condK_false, l_FnExactComponents_30, l_FnExactComponents_31, l_FnExactComponents_32, l_FnExactComponents_33, l_FnExactComponents_34, l_FnExactComponents_35, l_FnExactComponents_36, l_FnExactComponents_37, CW_cond, SXs, cond_true, cond_false, env0, List.getElem?_cons_zero, List.getElem?_cons_succ, Nat.reduceEqDiff, if_true, if_false, ↓reduceIte, Nat.reduceAdd, Nat.zero_add, Nat.add_zero, Nat.mul_one, reduceCtorEq, ldnO_at, hq8, ldnC_cells, gv_seg, Option.map_some]
  refine (markGraph_rets (k := 1) (ha6.ext hE68) (by omega) (by omega)).mono ?_
  rintro _ G9 hn9 ⟨rfl, -, hm9⟩
  have hge : G4.n ≤ G8.n := by omega
  have k9 : ∀ b, b < G3.n → G9.get b = G6.get b := fun b hb => by rw [hm9 b (by omega) (hao b hb), hE68.2 b (by omega)]
  have hw19 := keepO hw16 hwl1 k9
  have hal : ∀ b, G4.n ≤ b → a.off b := fun b hb => ⟨SV.off_of_lt ha.s.lt hb, SV.off_of_lt ha.t.lt hb, SV.off_of_lt ha.d.lt hb, SV.off_of_lt ha.c.lt hb⟩
  have kv : ∀ (s : SV) (cs : List Value), Own G6 s 3 1 cs → (∀ k, k < G5.n → s.off k) → Own G9 s 3 1 cs := fun s cs hs ho => hs.keep fun b hb => by
    have h1 : b < G6.n := SV.lt_of_not_off hs.lt hb
    have h2 : G5.n ≤ b := Nat.le_of_not_lt fun h => hb (ho b h)
    rw [hm9 b (by omega) (hal b (by omega)), hE68.2 b h1]
  have hv19 := kv _ _ hv1 fun k hk => hvo k hk
  have hb9 : G9.get H.n = .cells g.cs 24 := by rw [k9 _ (by omega)]; exact hb6
  have hneg : ∀ n : Nat, decide (((1 + n : Nat) : Int) < 0) = false := fun n => by simp; omega
  simp -implicitDefEqProofs (disch := first | assumption | exact id rfl | omega | (simp only [AHeap.alloc_n, AHeap.put_n, SV.put_n, AHeap.kill_n, ne_eq, List.length_cons, List.length_nil]; omega)) only [SXs, cond_true, cond_false, env0, List.getElem?_cons_zero, List.getElem?_cons_succ, Nat.reduceEqDiff, if_true, if_false, ↓reduceIte, Nat.reduceAdd, Nat.zero_add, Nat.add_zero, Nat.mul_one, reduceCtorEq, hneg]
  refine (eqIntS_rets hv19.arr hw19.arr (by omega)).mono ?_
  rintro _ G9 _ ⟨rfl, rfl⟩
  simp -implicitDefEqProofs (disch := first | assumption | exact id rfl | omega | (simp only [AHeap.alloc_n, AHeap.put_n, SV.put_n, AHeap.kill_n, ne_eq, List.length_cons, List.length_nil]; omega)) only [SXs, cond_true, cond_false, env0, List.getElem?_cons_zero, List.getElem?_cons_succ, Nat.reduceEqDiff, if_true, if_false, ↓reduceIte, Nat.reduceAdd, Nat.zero_add, Nat.add_zero, Nat.mul_one, reduceCtorEq, decide_true, Bool.not_true, nn, condK_false]
  -- marks in what the implementation gave
  simp -implicitDefEqProofs (disch := first | assumption | exact id rfl | omega | (simp only [AHeap.alloc_n, AHeap.put_n, SV.put_n, AHeap.kill_n, ne_eq, List.length_cons, List.length_nil]; omega)) only [l_FnExactComponents_40, l_FnExactComponents_41, l_FnExactComponents_42, l_FnExactComponents_43, l_FnExactComponents_44, l_FnExactComponents_45, l_FnExactComponents_46, l_FnExactComponents_47, l_FnExactComponents_48, l_FnExactComponents_49, l_FnExactComponents_50, l_FnExactComponents_51, CW_cond, SXs, cond_true, cond_false, env0, List.getElem?_cons_zero, List.getElem?_cons_succ, Nat.reduceEqDiff, if_true, if_false, ↓reduceIte, Nat.reduceAdd, Nat.zero_add, Nat.add_zero, Nat.mul_one, reduceCtorEq]
  refine (markIntS_rets (k := 1) hv19 (by omega) (by omega)).mono ?_
  rintro _ G11 _ ⟨rfl, hv111, hn11, hm11⟩
  have hw111 : IOwn G11 w1 ds := hw19.keep fun b hb => by
    have hb1 := SV.lt_of_not_off hwl1 hb
    rw [hm11 b (hvo b (by omega))]
  have k11 : ∀ b, b < G1.n → G11.get b = G1.get b := fun b hb => by
    rw [hm11 b (hvo b (by omega)), k9 b (by omega), hE36.2 b (by omega), hE23.2 b (by omega)]
  have hb11 : G11.get H.n = .cells g.cs 24 := by rw [k11 _ (by omega)]; exact hb1
  have hg11 : GArr G11 g x := hg1.ext ⟨by omega, k11⟩
  have mk : ∀ k n : Nat, (if marked k n = (List.range (marked k n).length).map (fun i => ((k + i : Nat) : Int)) then ((k + (marked k n).length : Nat) : Int) else -1) = ((k + n : Nat) : Int) := fun k n => by
    rw [marked_len]; exact if_pos rfl
  have ne2 : ∀ k n : Nat, decide (((k + n : Nat) : Int) < 0) = false := fun k n => by simp; omega
  refine (heldIntS_rets (k := 1) hv111.arr (by rw [marked_len]; omega) (by omega)).mono ?_
  rintro _ G11 _ ⟨rfl, rfl⟩
  simp -implicitDefEqProofs (disch := first | assumption | exact id rfl | omega | (simp only [AHeap.alloc_n, AHeap.put_n, SV.put_n, AHeap.kill_n, ne_eq, List.length_cons, List.length_nil]; omega)) only [mk, l_FnExactComponents_50, l_FnExactComponents_51, CW_cond, l_FnExactComponents_54, l_FnExactComponents_55, l_FnExactComponents_56, l_FnExactComponents_57, CW_cond, l_FnExactComponents_60, l_FnExactComponents_61, l_FnExactComponents_62, l_FnExactComponents_63, l_FnExactComponents_64, l_FnExactComponents_65, CW_cond, SXs, cond_true, cond_false, env0, List.getElem?_cons_zero, List.getElem?_cons_succ, Nat.reduceEqDiff, if_true, if_false, ↓reduceIte, Nat.reduceAdd, Nat.zero_add, Nat.add_zero, Nat.mul_one, reduceCtorEq, ne2, nn, condK_false, ldnO_at, hb11, ldnC_cells, gv_seg, Option.map_some]
  -- once more
  refine (toGraph_rets hg11 (by omega)).mono ?_
  rintro _ G12 hn12 ⟨a3, rfl, ha3, hE12, hao3⟩
  refine (implComponents_rets ha3.arr (by omega)).mono ?_
  rintro _ G13 hn13 ⟨h1, ds', c', rfl, hh1, hE13, -, hR'⟩
  obtain ⟨rfl, rfl⟩ := hR.uniq hR'
  have hEl := hE12.trans hE13
  have hw113 := hw111.ext hEl
  have hv113 := hv111.ext hEl
  simp -implicitDefEqProofs (disch := first | assumption | exact id rfl | omega | (simp only [AHeap.alloc_n, AHeap.put_n, SV.put_n, AHeap.kill_n, ne_eq, List.length_cons, List.length_nil]; omega)) only [l_FnExactComponents_62, l_FnExactComponents_63, l_FnExactComponents_64, l_FnExactComponents_65, CW_cond, SXs, cond_true, cond_false, env0, List.getElem?_cons_zero, List.getElem?_cons_succ, Nat.reduceEqDiff, if_true, if_false, ↓reduceIte, Nat.reduceAdd, Nat.zero_add, Nat.add_zero, Nat.mul_one, reduceCtorEq, x0, x1]
  refine (eqIntS_rets hh1.arr hw113.arr (by omega)).mono ?_
  rintro _ G13 _ ⟨rfl, rfl⟩
  simp -implicitDefEqProofs (disch := first | assumption | exact id rfl | omega | (simp only [AHeap.alloc_n, AHeap.put_n, SV.put_n, AHeap.kill_n, ne_eq, List.length_cons, List.length_nil]; omega)) only [SXs, cond_true, cond_false, env0, List.getElem?_cons_zero, List.getElem?_cons_succ, Nat.reduceEqDiff, if_true, if_false, ↓reduceIte, Nat.reduceAdd, Nat.zero_add, Nat.add_zero, Nat.mul_one, reduceCtorEq, decide_true, Bool.not_true, nn, condK_false]
  simp -implicitDefEqProofs (disch := first | assumption | exact id rfl | omega | (simp only [AHeap.alloc_n, AHeap.put_n, SV.put_n, AHeap.kill_n, ne_eq, List.length_cons, List.length_nil]; omega)) only [l_FnExactComponents_68, l_FnExactComponents_69, l_FnExactComponents_70, l_FnExactComponents_71, l_FnExactComponents_72, l_FnExactComponents_73, l_FnExactComponents_74, l_FnExactComponents_75, CW_cond, SXs, cond_true, cond_false, env0, List.getElem?_cons_zero, List.getElem?_cons_succ, Nat.reduceEqDiff, if_true, if_false, ↓reduceIte, Nat.reduceAdd, Nat.zero_add, Nat.add_zero, Nat.mul_one, reduceCtorEq]
  refine (heldIntS_rets (k := 1) hv113.arr (by rw [marked_len]; omega) (by omega)).mono ?_
  rintro _ G13 _ ⟨rfl, rfl⟩
  simp -implicitDefEqProofs (disch := first | assumption | exact id rfl | omega | (simp only [AHeap.alloc_n, AHeap.put_n, SV.put_n, AHeap.kill_n, ne_eq, List.length_cons, List.length_nil]; omega)) only [mk, l_FnExactComponents_74, l_FnExactComponents_75, CW_cond, l_FnExactComponents_78, l_FnExactComponents_79, l_FnExactComponents_80, l_FnExactComponents_81, CW_cond, l_FnExactComponents_84, l_FnExactComponents_85, aop_ld, aop_ldn, bodyK_ret, bodyK_normal, resL, resV, Option.map_some, oneV, blockK_exit, seqK_exit, seqK_ret, blockK_ret, loopK_exit, loopK_ret, rs_l_FnExactComponents, SXs, cond_true, cond_false, env0, List.getElem?_cons_zero, List.getElem?_cons_succ, Nat.reduceEqDiff, if_true, if_false, ↓reduceIte, Nat.reduceAdd, Nat.zero_add, Nat.add_zero, Nat.mul_one, reduceCtorEq, ne2, nn, condK_false, aop_ld, aop_ldn, bodyK_ret, bodyK_normal, resL, resV, Option.map_some, oneV, blockK_exit, seqK_exit, seqK_ret, blockK_ret, loopK_exit, loopK_ret, rs_l_FnExactComponents]
end Go.AB
