/- Routes, as the specification finds them. -/
import Derived.Test.YtnbamdhmhnhneaaT10
set_option linter.unusedVariables false
set_option linter.unusedSimpArgs false
set_option maxRecDepth 10000
set_option maxHeartbeats 2000000
namespace Go.AB
open Go.Proofs
variable {w0 : World} {H : AHeap}

def EE : Enc E4 4 := ⟨E4.cs, fun _ => rfl⟩
theorem EE0 {e : E4} : (EE.cs e)[0]? = some (iv e.f) := rfl
theorem EE1 {e : E4} : (EE.cs e)[1]? = some (iv e.t) := rfl
theorem EE2 {e : E4} : (EE.cs e)[2]? = some (iv e.d) := rfl
theorem EE3 {e : E4} : (EE.cs e)[3]? = some (iv e.c) := rfl
theorem EE_st {e : E4} {G : AHeap} {b : Nat} : stC 4 G b (.cells [.int .i64 0, .int .i64 0, .int .i64 0, .int .i64 0] 42) 0 (.agg (EE.cs e).toArray) = some (.tuple #[], G.put b 0 (EE.cs e)) := stC_enc (by simp)
/-- A variable that holds an edge. -/
def AHeap.boxE (G : AHeap) (e : E4) : AHeap := (G.alloc (.cells [.int .i64 0, .int .i64 0, .int .i64 0, .int .i64 0] 42)).put G.n 0 (EE.cs e)
theorem boxE_fold {G : AHeap} {e : E4} : (G.alloc (.cells [.int .i64 0, .int .i64 0, .int .i64 0, .int .i64 0] 42)).put G.n 0 (EE.cs e) = G.boxE e := rfl
theorem boxE_at {G : AHeap} {e : E4} : (G.boxE e).get G.n = .cells (EE.cs e) 42 := by
  rw [AHeap.boxE, put_at, AHeap.alloc_self]; rfl
theorem boxE_ext {G : AHeap} {e : E4} : Ext G (G.boxE e) := ((Ext.refl G).allocs _).put (Nat.le_refl _)
theorem boxE_n {G : AHeap} {e : E4} : (G.boxE e).n = G.n + 1 := by rw [AHeap.boxE, AHeap.put_n]; rfl

theorem specRoute_rets {g : GV} {x : GD} {t : Int} (hg : GArr H g x) (hx : x.size ≤ 2 ^ 60) : Rets Go.Proofs.Try.prog w0 6 [g.v, iv t] H fun v H' => RouteRes H H' v x t := by
  refine rets_fun rfl cf_s_Route (body_of ?_)
  have hE0 : Ext H (H.alloc (.cells g.cs 28)) := Ext.alloc _ _
  have hb0 : (H.alloc (.cells g.cs 28)).get H.n = .cells g.cs 28 := AHeap.alloc_self _ _
  have hn0 : (H.alloc (.cells g.cs 28)).n = H.n + 1 := rfl
  simp -implicitDefEqProofs (disch := first | assumption | exact id rfl | omega | (simp only [AHeap.alloc_n, AHeap.put_n, SV.put_n, AHeap.kill_n, ne_eq, List.length_cons, List.length_nil]; omega)) only [s_Route_0, s_Route_1, SXs, cond_true, cond_false, env0, List.getElem?_cons_zero, List.getElem?_cons_succ, Nat.reduceEqDiff, if_true, if_false, ↓reduceIte, Nat.reduceAdd, Nat.zero_add, Nat.add_zero, Nat.mul_one, reduceCtorEq, boxO_agg]
  generalize H.alloc (.cells g.cs 28) = G0 at *
  simp -implicitDefEqProofs (disch := first | assumption | exact id rfl | omega | (simp only [AHeap.alloc_n, AHeap.put_n, SV.put_n, AHeap.kill_n, ne_eq, List.length_cons, List.length_nil]; omega)) only [s_Route_2, s_Route_3, s_Route_4, s_Route_5, CW_cond, SXs, cond_true, cond_false, env0, List.getElem?_cons_zero, List.getElem?_cons_succ, Nat.reduceEqDiff, if_true, if_false, ↓reduceIte, Nat.reduceAdd, Nat.zero_add, Nat.add_zero, Nat.mul_one, reduceCtorEq, ldnO_at, hb0, ldnC_cells, gv_seg, Option.map_some]
  refine (specValidGraph_rets (hg.ext hE0) hx).mono ?_
  rintro _ G1 hn1 ⟨⟨bb, rfl, hbb⟩, hE1⟩
  have hE := hE0.trans hE1
  have hb : G1.get H.n = .cells g.cs 28 := by rw [hE1.2 _ (by omega)]; exact hb0
  rw [hn0] at hn1
  clear hE0 hE1 hb0 hn0
  have bad : ¬ (x.Ok ∧ 0 ≤ t ∧ t < x.n) → ∀ G, Ext H G → RouteRes H G (.tuple #[.slice none 0 0, .slice none 0 0, iv 1]) x t := fun hn G hG =>
    ⟨.nil, .nil, [], [], 1, rfl, Own.nil, Own.nil, fun _ => .inl trivial, hG, fun _ _ => ⟨trivial, trivial⟩, .inr ⟨hn, rfl, rfl, rfl⟩⟩
  by_cases ok : x.Ok
  case neg =>
    have : bb = false := by cases bb with
      | false => rfl
      | true => exact absurd (hbb.1 rfl) ok
    subst this
    simp -implicitDefEqProofs (disch := first | assumption | exact id rfl | omega | (simp only [AHeap.alloc_n, AHeap.put_n, SV.put_n, AHeap.kill_n, ne_eq, List.length_cons, List.length_nil]; omega)) only [SXs, cond_true, cond_false, env0, List.getElem?_cons_zero, List.getElem?_cons_succ, Nat.reduceEqDiff, if_true, if_false, ↓reduceIte, Nat.reduceAdd, Nat.zero_add, Nat.add_zero, Nat.mul_one, reduceCtorEq, Bool.not_false, condK_true, s_Route_6, s_Route_7, aop_ld, aop_ldn, bodyK_ret, bodyK_normal, resL, resV, Option.map_some, oneV, blockK_exit, seqK_exit, seqK_ret, blockK_ret, loopK_exit, loopK_ret, rs_s_Route, aop_ld, aop_ldn, bodyK_ret, bodyK_normal, resL, resV, Option.map_some, oneV, blockK_exit, seqK_exit, seqK_ret, blockK_ret, loopK_exit, loopK_ret]
    exact bad (fun h => ok h.1) _ hE
  have : bb = true := hbb.2 ok
  subst this
  simp -implicitDefEqProofs (disch := first | assumption | exact id rfl | omega | (simp only [AHeap.alloc_n, AHeap.put_n, SV.put_n, AHeap.kill_n, ne_eq, List.length_cons, List.length_nil]; omega)) only [SXs, cond_true, cond_false, env0, List.getElem?_cons_zero, List.getElem?_cons_succ, Nat.reduceEqDiff, if_true, if_false, ↓reduceIte, Nat.reduceAdd, Nat.zero_add, Nat.add_zero, Nat.mul_one, reduceCtorEq, Bool.not_true]
  refine bool_split (fun h => ?_) (fun h => ?_) <;> simp only [decide_eq_true_eq, decide_eq_false_iff_not, bne_iff_ne, ne_eq, bne_eq_false_iff_eq, beq_iff_eq, beq_eq_false_iff_ne, Bool.not_eq_true, Bool.not_eq_eq_eq_not, Bool.not_true, Bool.not_false, Classical.not_not, Int.not_lt, Int.not_le] at h
  · simp -implicitDefEqProofs (disch := first | assumption | exact id rfl | omega | (simp only [AHeap.alloc_n, AHeap.put_n, SV.put_n, AHeap.kill_n, ne_eq, List.length_cons, List.length_nil]; omega)) only [SXs, cond_true, cond_false, env0, List.getElem?_cons_zero, List.getElem?_cons_succ, Nat.reduceEqDiff, if_true, if_false, ↓reduceIte, Nat.reduceAdd, Nat.zero_add, Nat.add_zero, Nat.mul_one, reduceCtorEq, condK_true, s_Route_6, s_Route_7, aop_ld, aop_ldn, bodyK_ret, bodyK_normal, resL, resV, Option.map_some, oneV, blockK_exit, seqK_exit, seqK_ret, blockK_ret, loopK_exit, loopK_ret, rs_s_Route, aop_ld, aop_ldn, bodyK_ret, bodyK_normal, resL, resV, Option.map_some, oneV, blockK_exit, seqK_exit, seqK_ret, blockK_ret, loopK_exit, loopK_ret]
    exact bad (fun h => by omega) _ hE
  have hgn := hg.n
  simp -implicitDefEqProofs (disch := first | assumption | exact id rfl | omega | (simp only [AHeap.alloc_n, AHeap.put_n, SV.put_n, AHeap.kill_n, ne_eq, List.length_cons, List.length_nil]; omega)) only [SXs, cond_true, cond_false, env0, List.getElem?_cons_zero, List.getElem?_cons_succ, Nat.reduceEqDiff, if_true, if_false, ↓reduceIte, Nat.reduceAdd, Nat.zero_add, Nat.add_zero, Nat.mul_one, reduceCtorEq, ldO_at, hb, ldC_cells, GV.get0, Option.map_some]
  refine condK_of (fun h2 => ?_) (fun h2 => ?_) <;> simp only [decide_eq_true_eq, decide_eq_false_iff_not, bne_iff_ne, ne_eq, bne_eq_false_iff_eq, beq_iff_eq, beq_eq_false_iff_ne, Bool.not_eq_true, Bool.not_eq_eq_eq_not, Bool.not_true, Bool.not_false, Classical.not_not, Int.not_lt, Int.not_le] at h2
  · simp -implicitDefEqProofs (disch := first | assumption | exact id rfl | omega | (simp only [AHeap.alloc_n, AHeap.put_n, SV.put_n, AHeap.kill_n, ne_eq, List.length_cons, List.length_nil]; omega)) only [s_Route_6, s_Route_7, aop_ld, aop_ldn, bodyK_ret, bodyK_normal, resL, resV, Option.map_some, oneV, blockK_exit, seqK_exit, seqK_ret, blockK_ret, loopK_exit, loopK_ret, rs_s_Route, SXs, cond_true, cond_false, env0, List.getElem?_cons_zero, List.getElem?_cons_succ, Nat.reduceEqDiff, if_true, if_false, ↓reduceIte, Nat.reduceAdd, Nat.zero_add, Nat.add_zero, Nat.mul_one, reduceCtorEq, aop_ld, aop_ldn, bodyK_ret, bodyK_normal, resL, resV, Option.map_some, oneV, blockK_exit, seqK_exit, seqK_ret, blockK_ret, loopK_exit, loopK_ret]
    exact bad (fun h => by omega) _ hE
  obtain ⟨N, hN⟩ : ∃ N : Nat, x.n = N := ⟨x.n.toNat, by have := ok.n; omega⟩
  have hN' : x.n.toNat = N := by omega
  obtain ⟨T, rfl⟩ : ∃ T : Nat, t = T := ⟨t.toNat, by omega⟩
  have hTN : T < N := by omega
  rw [hN] at hgn
  have o_n := ok.n
  rw [hN] at o_n
  clear bad hbb h h2
  simp -implicitDefEqProofs (disch := first | assumption | exact id rfl | omega | (simp only [AHeap.alloc_n, AHeap.put_n, SV.put_n, AHeap.kill_n, ne_eq, List.length_cons, List.length_nil]; omega)) only [s_Route_8, s_Route_9, s_Route_10, s_Route_11, s_Route_12, s_Route_13, s_Route_14, s_Route_15, s_Route_16, s_Route_17, s_Route_18, SXs, cond_true, cond_false, env0, List.getElem?_cons_zero, List.getElem?_cons_succ, Nat.reduceEqDiff, if_true, if_false, ↓reduceIte, Nat.reduceAdd, Nat.zero_add, Nat.add_zero, Nat.mul_one, reduceCtorEq, ldnO_at, hb, ldnC_cells, gv_seg, Option.map_some]
  refine (l5edges_rets (hg.ext hE) ok).mono ?_
  rintro _ R hn2 ⟨es_, es, rfl, heo, hes, hE2, heoff⟩
  have heo : Own R es_ 42 4 (EE.all es) := heo
  have hel : es_.len = es.length := enc_len heo.arr (by omega)
  have ⟨eok, elen⟩ := edges_ok ok hes
  rw [hN'] at eok
  have hER := hE.trans hE2
  have hbR : R.get H.n = .cells g.cs 28 := by rw [hE2.2 _ (by omega)]; exact hb
  have hRn : H.n < R.n := by omega
  have hesl := heo.lt
  clear hb hE hE2 hn1 hn2 heoff
  have hbR1 : (R.alloc (.cells (ints (List.replicate N 0)) 3)).get H.n = .cells g.cs 28 := by rw [AHeap.alloc_ne _ _ (by omega)]; exact hbR
  simp -implicitDefEqProofs (disch := first | assumption | exact id rfl | omega | (simp only [AHeap.alloc_n, AHeap.put_n, SV.put_n, AHeap.kill_n, ne_eq, List.length_cons, List.length_nil]; omega)) only [s_Route_10, s_Route_11, s_Route_12, s_Route_13, s_Route_14, s_Route_15, s_Route_16, s_Route_17, s_Route_18, SXs, cond_true, cond_false, env0, List.getElem?_cons_zero, List.getElem?_cons_succ, Nat.reduceEqDiff, if_true, if_false, ↓reduceIte, Nat.reduceAdd, Nat.zero_add, Nat.add_zero, Nat.mul_one, reduceCtorEq, ldO_at, hbR, hbR1, ldC_cells, GV.get0, hgn, Option.map_some, mksO_n, zeros, AHeap.alloc_n]
  -- dist at R.n, hop behind it
  have ias : ∀ (b j : Nat) (G' : AHeap), j < N → iaO 1 (some (SV.at b 0 N).v) (some (iv j)) G' = some ((SV.at b 0 N).p j, G') := fun b j G' hj => by rw [iaO_n (show j < (SV.at b 0 N).len from hj), Nat.mul_one]
  have hdh : (SV.at R.n 0 N).apart (.at (R.n + 1) 0 N) := apart_of_off (by simp only [SV.off]; omega)
  refine CW_midq (fun e G => ∃ (ds hs : List Int), e 1 = some (iv T) ∧ e 7 = some es_.v ∧ e 8 = some (SV.at R.n 0 N).v ∧ e 9 = some (SV.at (R.n + 1) 0 N).v ∧ Ext R G ∧ G.n = R.n + 2 ∧ IOwn G (.at R.n 0 N) ds ∧ IOwn G (.at (R.n + 1) 0 N) hs ∧ ds.length = N ∧ hs.length = N ∧ ∀ j, j < N → ds.getD j 0 = -1 ∧ hs.getD j 0 = -1) ?_ ?_
  · refine CW_inv (fun n e G => ∃ (c : Nat) (ds hs : List Int), n = N - c ∧ c ≤ N ∧ e 1 = some (iv T) ∧ e 2 = some (pt H.n 0) ∧ e 7 = some es_.v ∧ e 8 = some (SV.at R.n 0 N).v ∧ e 9 = some (SV.at (R.n + 1) 0 N).v ∧ e 10 = some (iv c) ∧ Ext R G ∧ G.n = R.n + 2 ∧ IOwn G (.at R.n 0 N) ds ∧ IOwn G (.at (R.n + 1) 0 N) hs ∧ ds.length = N ∧ hs.length = N ∧ ∀ j, j < c → ds.getD j 0 = -1 ∧ hs.getD j 0 = -1) N
      ⟨0, List.replicate N 0, List.replicate N 0, by simp, by simp, rfl, rfl, rfl, rfl, rfl, rfl, ((Ext.refl R).allocs _).allocs _, rfl, (Own.new (by simp [ints])).alloc, Own.new (by simp [ints]), by simp, by simp, fun j hj => by omega⟩ ?_
    rintro n e G ⟨c, ds, hs, hn, hc, e1, e2, e7, e8, e9, e10, hEG, hGn, hd, hh, hdl, hhl, hmin⟩
    have hbG : G.get H.n = .cells g.cs 28 := by rw [hEG.2 _ hRn]; exact hbR
    simp -implicitDefEqProofs (disch := first | assumption | exact id rfl | omega | (simp only [AHeap.alloc_n, AHeap.put_n, SV.put_n, AHeap.kill_n, ne_eq, List.length_cons, List.length_nil]; omega)) only [s_Route_19, s_Route_20, s_Route_21, s_Route_22, CW_cond, SXs, cond_true, cond_false, env0, List.getElem?_cons_zero, List.getElem?_cons_succ, Nat.reduceEqDiff, if_true, if_false, ↓reduceIte, Nat.reduceAdd, Nat.zero_add, Nat.add_zero, Nat.mul_one, reduceCtorEq, e2, e10, ldO_at, hbG, ldC_cells, GV.get0, hgn, Option.map_some]
    refine condK_of (fun h => ?_) (fun h => ?_) <;> simp only [decide_eq_true_eq, decide_eq_false_iff_not, bne_iff_ne, ne_eq, bne_eq_false_iff_eq, beq_iff_eq, beq_eq_false_iff_ne, Bool.not_eq_true, Bool.not_eq_eq_eq_not, Bool.not_true, Bool.not_false, Classical.not_not, Int.not_lt, Int.not_le] at h
    · have hcN : c < N := by omega
      have hd2 := iown_put (n := -1) hd (show c < ds.length by omega)
      have hh1 := hh.sput (j := c) (vs := [iv (-1)]) hdh
      have hs2 := iown_st (n := -1) hh1 (show c < hs.length by omega)
      have hh2 := iown_put (n := -1) hh1 (show c < hs.length by omega)
      have hd3 := hd2.sput (j := c) (vs := [iv (-1)]) hdh.symm
      simp -implicitDefEqProofs (disch := first | assumption | exact id rfl | omega | (simp only [AHeap.alloc_n, AHeap.put_n, SV.put_n, AHeap.kill_n, ne_eq, List.length_cons, List.length_nil]; omega)) only [s_Route_23, s_Route_24, s_Route_25, s_Route_26, s_Route_27, s_Route_28, SXs, cond_true, cond_false, env0, List.getElem?_cons_zero, List.getElem?_cons_succ, Nat.reduceEqDiff, if_true, if_false, ↓reduceIte, Nat.reduceAdd, Nat.zero_add, Nat.add_zero, Nat.mul_one, reduceCtorEq, e8, e9, e10, ias, iown_st (n := -1) hd (show c < ds.length by omega), hs2]
      refine ⟨N - (c + 1), by omega, c + 1, _, _, rfl, by omega, e1, e2, e7, e8, e9, rfl, (hEG.sput fun b hb => ?_).sput fun b hb => ?_, by rw [SV.put_n, SV.put_n]; exact hGn, hd3, hh2, by simp [hdl], by simp [hhl], fun j hj => ?_⟩
      · simp only [SV.off]; omega
      · simp only [SV.off]; omega
      · rw [getD_set (by omega), getD_set (by omega)]
        split
        · exact ⟨rfl, rfl⟩
        · exact hmin j (by omega)
    · have hcN : c = N := by omega
      subst hcN
      exact ⟨ds, hs, (by first | trivial | assumption), (by first | trivial | assumption), (by first | trivial | assumption), (by first | trivial | assumption), hEG, hGn, hd, hh, hdl, hhl, hmin⟩
  rintro e G hnG ⟨ds, hs, e1, e7, e8, e9, hEG, hGn, hd, hh, hdl, hhl, hmin⟩
  have hd2 := iown_put (n := 0) hd (show T < ds.length by omega)
  have hh2 := hh.sput (j := T) (vs := [iv 0]) hdh
  have hE2 : Ext R ((SV.at R.n 0 N).put G T [iv 0]) := hEG.sput fun b hb => by simp only [SV.off]; omega
  have hn2 : ((SV.at R.n 0 N).put G T [iv 0]).n = R.n + 2 := by rw [SV.put_n]; exact hGn
  have fall : Fall es N T (ds.set T 0) := Fall.begin hTN (by simp [hdl]) fun u hu => by
    rw [getD_set (by omega)]
    by_cases hut : T = u
    · rw [if_pos hut, if_pos hut.symm]
    · rw [if_neg hut, if_neg (fun h => hut h.symm)]; exact (hmin u hu).1
  have hop0 : HopOk [] N T (ds.set T 0) hs := HopOk.nil hhl fun u hu => (hmin u hu).2
  simp -implicitDefEqProofs (disch := first | assumption | exact id rfl | omega | (simp only [AHeap.alloc_n, AHeap.put_n, SV.put_n, AHeap.kill_n, ne_eq, List.length_cons, List.length_nil]; omega)) only [s_Route_29, s_Route_30, s_Route_31, s_Route_32, s_Route_33, SXs, cond_true, cond_false, env0, List.getElem?_cons_zero, List.getElem?_cons_succ, Nat.reduceEqDiff, if_true, if_false, ↓reduceIte, Nat.reduceAdd, Nat.zero_add, Nat.add_zero, Nat.mul_one, reduceCtorEq, e1, e8, ias, iown_st (n := 0) hd (show T < ds.length by omega)]
  have hh0 : ∀ u, u < N → hs.getD u 0 = -1 := fun u hu => (hmin u hu).2
  clear hop0 hmin hd hh hEG
  generalize (SV.at R.n 0 N).put G T [iv 0] = G1 at *
  generalize ds.set T 0 = ds at *
  refine CW_midq (fun e G => ∃ (ds : List Int), e 1 = some (iv T) ∧ e 7 = some es_.v ∧ e 8 = some (SV.at R.n 0 N).v ∧ e 9 = some (SV.at (R.n + 1) 0 N).v ∧ Ext R G ∧ R.n + 2 ≤ G.n ∧ IOwn G (.at R.n 0 N) ds ∧ IOwn G (.at (R.n + 1) 0 N) hs ∧ DistOk es N T ds ∧ ∀ u, u < N → ds.getD u 0 ≤ 14400) ?_ ?_
  · refine CW_inv (fun n e G => ∃ (ds : List Int), n = mu ds ∧ e 1 = some (iv T) ∧ e 7 = some es_.v ∧ e 8 = some (SV.at R.n 0 N).v ∧ e 9 = some (SV.at (R.n + 1) 0 N).v ∧ Ext R G ∧ R.n + 2 ≤ G.n ∧ IOwn G (.at R.n 0 N) ds ∧ IOwn G (.at (R.n + 1) 0 N) hs ∧ Fall es N T ds) _
      ⟨ds, rfl, e1, e7, e8, e9, hE2, by omega, hd2, hh2, fall⟩ ?_
    clear e1 e7 e8 e9 hE2 hn2 hd2 hh2 fall hdl hnG hGn
    clear ds G1 G
    rintro n e G ⟨ds0, hn, e1, e7, e8, e9, hEG, hGn, hd, hh, fall⟩
    simp -implicitDefEqProofs (disch := first | assumption | exact id rfl | omega | (simp only [AHeap.alloc_n, AHeap.put_n, SV.put_n, AHeap.kill_n, ne_eq, List.length_cons, List.length_nil]; omega)) only [s_Route_34, s_Route_35, s_Route_36, s_Route_37, s_Route_38, s_Route_39, s_Route_40, s_Route_41, SXs, cond_true, cond_false, env0, List.getElem?_cons_zero, List.getElem?_cons_succ, Nat.reduceEqDiff, if_true, if_false, ↓reduceIte, Nat.reduceAdd, Nat.zero_add, Nat.add_zero, Nat.mul_one, reduceCtorEq, e7]
    refine CW_midq (fun e G => ∃ (ds : List Int) (sm : Bool), e 1 = some (iv T) ∧ e 7 = some es_.v ∧ e 8 = some (SV.at R.n 0 N).v ∧ e 9 = some (SV.at (R.n + 1) 0 N).v ∧ e 11 = some (.bool sm) ∧ Ext R G ∧ R.n + 2 ≤ G.n ∧ IOwn G (.at R.n 0 N) ds ∧ IOwn G (.at (R.n + 1) 0 N) hs ∧ Fall es N T ds ∧ (sm = true → mu ds < mu ds0) ∧ (sm = false → ∀ e ∈ es, calm ds e)) ?_ ?_
    · refine CW_inv (fun n e G => ∃ (i : Nat) (ds : List Int) (sm : Bool), n = i ∧ i ≤ es.length ∧ e 1 = some (iv T) ∧ e 7 = some es_.v ∧ e 8 = some (SV.at R.n 0 N).v ∧ e 9 = some (SV.at (R.n + 1) 0 N).v ∧ e 11 = some (.bool sm) ∧ e 12 = some (iv ((i : Int) - 1)) ∧ Ext R G ∧ R.n + 2 ≤ G.n ∧ IOwn G (.at R.n 0 N) ds ∧ IOwn G (.at (R.n + 1) 0 N) hs ∧ Fall es N T ds ∧ (sm = true → mu ds < mu ds0) ∧ (sm = false → ds = ds0 ∧ ∀ (k : Nat) (e : E4), i ≤ k → es[k]? = some e → calm ds e)) es.length
        ⟨es.length, ds0, false, rfl, Nat.le_refl _, e1, e7, e8, e9, rfl, by simp only [put_some, ↓reduceIte, hel], hEG, hGn, hd, hh, fall, (fun h => by cases h), fun _ => ⟨rfl, fun k e hk he => by have := (List.getElem?_eq_some_iff.1 he).1; omega⟩⟩ ?_
      clear e1 e7 e8 e9 hEG hGn hd hh fall
      clear G
      rintro n' e G ⟨i, ds, sm, hn', hi, e1, e7, e8, e9, e11, e12, hEG, hGn, hd, hh, fall, hs1, hs2⟩
      simp -implicitDefEqProofs (disch := first | assumption | exact id rfl | omega | (simp only [AHeap.alloc_n, AHeap.put_n, SV.put_n, AHeap.kill_n, ne_eq, List.length_cons, List.length_nil]; omega)) only [s_Route_42, s_Route_43, s_Route_44, s_Route_45, CW_cond, SXs, cond_true, cond_false, env0, List.getElem?_cons_zero, List.getElem?_cons_succ, Nat.reduceEqDiff, if_true, if_false, ↓reduceIte, Nat.reduceAdd, Nat.zero_add, Nat.add_zero, Nat.mul_one, reduceCtorEq, e12]
      refine condK_of (fun h => ?_) (fun h => ?_) <;> simp only [decide_eq_true_eq, decide_eq_false_iff_not, bne_iff_ne, ne_eq, bne_eq_false_iff_eq, beq_iff_eq, beq_eq_false_iff_ne, Bool.not_eq_true, Bool.not_eq_eq_eq_not, Bool.not_true, Bool.not_false, Classical.not_not, Int.not_lt, Int.not_le] at h
      · obtain ⟨i, rfl⟩ : ∃ k, i = k + 1 := ⟨i - 1, by omega⟩
        have ei : ((i + 1 : Nat) : Int) - 1 = (i : Int) := by omega
        rw [ei] at e12
        obtain ⟨ed, hed⟩ : ∃ ed, es[i]? = some ed := ⟨_, List.getElem?_eq_getElem (by omega)⟩
        have hmem := List.mem_of_getElem? hed
        have k1 := eok.f ed hmem
        have k2 := eok.t ed hmem
        have k3 := eok.c ed hmem
        obtain ⟨fn, hfn⟩ : ∃ fn : Nat, ed.f = fn := ⟨ed.f.toNat, by omega⟩
        obtain ⟨tn, htn⟩ : ∃ tn : Nat, ed.t = tn := ⟨ed.t.toNat, by omega⟩
        have q0 : (EE.cs ed)[0]? = some (iv fn) := by rw [EE0, hfn]
        have q1 : (EE.cs ed)[1]? = some (iv tn) := by rw [EE1, htn]
        have hdl := fall.len
        have hbnd := fall.hi tn (by omega)
        have hcl := cnt_le ds
        rw [hdl] at hcl
        have hbx := boxE_at (G := G) (e := ed)
        have hEb := boxE_ext (G := G) (e := ed)
        have hEG2 := hEG.trans hEb
        have hd2 := hd.ext hEb
        have hh2 := hh.ext hEb
        have hbn := boxE_n (G := G) (e := ed)
        simp -implicitDefEqProofs (disch := first | assumption | exact id rfl | omega | (simp only [AHeap.alloc_n, AHeap.put_n, SV.put_n, AHeap.kill_n, ne_eq, List.length_cons, List.length_nil]; omega)) only [s_Route_46, s_Route_47, s_Route_48, s_Route_49, s_Route_50, s_Route_51, s_Route_52, s_Route_53, CW_cond, SXs, cond_true, cond_false, env0, List.getElem?_cons_zero, List.getElem?_cons_succ, Nat.reduceEqDiff, if_true, if_false, ↓reduceIte, Nat.reduceAdd, Nat.zero_add, Nat.add_zero, Nat.mul_one, reduceCtorEq, e7, e8, e12, ldnE (heo.ext hEG).arr (by omega) hed, stO_at, alloc_at, EE_st, boxE_fold]
        generalize G.boxE ed = G2 at *
        simp -implicitDefEqProofs (disch := first | assumption | exact id rfl | omega | (simp only [AHeap.alloc_n, AHeap.put_n, SV.put_n, AHeap.kill_n, ne_eq, List.length_cons, List.length_nil]; omega)) only [SXs, cond_true, cond_false, env0, List.getElem?_cons_zero, List.getElem?_cons_succ, Nat.reduceEqDiff, if_true, if_false, ↓reduceIte, Nat.reduceAdd, Nat.zero_add, Nat.add_zero, Nat.mul_one, reduceCtorEq, e8, ldO_at, hbx, ldC_cells, q1, Option.map_some, ias, iarr_ld hd2.arr]
        have fin : ∀ (ds' : List Int) (sm' : Bool) (e' : Env) (G' : AHeap), e' 1 = e 1 → e' 7 = e 7 → e' 8 = e 8 → e' 9 = e 9 → e' 11 = some (.bool sm') → e' 12 = some (iv i) → Ext R G' → R.n + 2 ≤ G'.n → IOwn G' (.at R.n 0 N) ds' → IOwn G' (.at (R.n + 1) 0 N) hs → Fall es N T ds' → (sm' = true → mu ds' < mu ds0) → (sm' = false → ds' = ds0 ∧ ∀ (k : Nat) (e : E4), i ≤ k → es[k]? = some e → calm ds' e) →
            ∀ Q, CW Go.Proofs.Try.prog w0 s_Route_62 e' G' (stepK (fun n e G => ∃ (i : Nat) (ds : List Int) (sm : Bool), n = i ∧ i ≤ es.length ∧ e 1 = some (iv T) ∧ e 7 = some es_.v ∧ e 8 = some (SV.at R.n 0 N).v ∧ e 9 = some (SV.at (R.n + 1) 0 N).v ∧ e 11 = some (.bool sm) ∧ e 12 = some (iv ((i : Int) - 1)) ∧ Ext R G ∧ R.n + 2 ≤ G.n ∧ IOwn G (.at R.n 0 N) ds ∧ IOwn G (.at (R.n + 1) 0 N) hs ∧ Fall es N T ds ∧ (sm = true → mu ds < mu ds0) ∧ (sm = false → ds = ds0 ∧ ∀ (k : Nat) (e : E4), i ≤ k → es[k]? = some e → calm ds e)) n' Q) := by
          intro ds' sm' e' G' a1 a7 a8 a9 a11 a12 b1 b2 b3 b4 b5 b6 b7 Q
          simp -implicitDefEqProofs (disch := first | assumption | exact id rfl | omega | (simp only [AHeap.alloc_n, AHeap.put_n, SV.put_n, AHeap.kill_n, ne_eq, List.length_cons, List.length_nil]; omega)) only [s_Route_62, SXs, cond_true, cond_false, env0, List.getElem?_cons_zero, List.getElem?_cons_succ, Nat.reduceEqDiff, if_true, if_false, ↓reduceIte, Nat.reduceAdd, Nat.zero_add, Nat.add_zero, Nat.mul_one, reduceCtorEq, a12]
          exact ⟨i, by omega, i, ds', sm', rfl, by omega, by rw [← e1, ← a1]; rfl, by rw [← e7, ← a7]; rfl, by rw [← e8, ← a8]; rfl, by rw [← e9, ← a9]; rfl, a11, rfl, b1, b2, b3, b4, b5, b6, b7⟩
        have keep : calm ds ed → sm = false → ds = ds0 ∧ ∀ (k : Nat) (e : E4), i ≤ k → es[k]? = some e → calm ds e := fun hc hsm => ⟨(hs2 hsm).1, fun k e' hk he' => by
          by_cases hki : k = i
          · subst hki; rw [hed] at he'; cases he'; exact hc
          · exact (hs2 hsm).2 k e' (by omega) he'⟩
        refine condK_of (fun h1 => ?_) (fun h1 => ?_) <;> simp only [decide_eq_true_eq, decide_eq_false_iff_not, bne_iff_ne, ne_eq, bne_eq_false_iff_eq, beq_iff_eq, beq_eq_false_iff_ne, Bool.not_eq_true, Bool.not_eq_eq_eq_not, Bool.not_true, Bool.not_false, Classical.not_not, Int.not_lt, Int.not_le] at h1
        · exact fin ds sm _ _ (by rfl) (by rfl) (by rfl) (by rfl) (by exact e11) (by exact e12) hEG2 (by omega) hd2 hh2 fall hs1 (keep fun h0 => by simp only [gi, htn, Int.toNat_natCast] at h0; omega) _
        · simp -implicitDefEqProofs (disch := first | assumption | exact id rfl | omega | (simp only [AHeap.alloc_n, AHeap.put_n, SV.put_n, AHeap.kill_n, ne_eq, List.length_cons, List.length_nil]; omega)) only [s_Route_54, s_Route_55, s_Route_56, s_Route_57, s_Route_58, CW_cond, SXs, cond_true, cond_false, env0, List.getElem?_cons_zero, List.getElem?_cons_succ, Nat.reduceEqDiff, if_true, if_false, ↓reduceIte, Nat.reduceAdd, Nat.zero_add, Nat.add_zero, Nat.mul_one, reduceCtorEq, e8, ldO_at, hbx, ldC_cells, q0, q1, EE3, Option.map_some, ias, iarr_ld hd2.arr]
          have hset := fall.set eok (by omega) hmem (by simp only [gi, htn, Int.toNat_natCast]; exact h1)
          simp only [gi, hfn, htn, Int.toNat_natCast] at hset
          have hst := iown_st (n := ds.getD tn 0 + ed.c) hd2 (show fn < ds.length by omega)
          have hd3 := iown_put (n := ds.getD tn 0 + ed.c) hd2 (show fn < ds.length by omega)
          have hh3 := hh2.sput (j := fn) (vs := [iv (ds.getD tn 0 + ed.c)]) hdh
          have hE3 : Ext R ((SV.at R.n 0 N).put G2 fn [iv (ds.getD tn 0 + ed.c)]) := hEG2.sput fun b hb => by simp only [SV.off]; omega
          have hn3 : ((SV.at R.n 0 N).put G2 fn [iv (ds.getD tn 0 + ed.c)]).n = G.n + 1 := by rw [SV.put_n, hbn]
          have hlt : mu ds ≤ mu ds0 := by
            cases sm with
            | true => exact Nat.le_of_lt (hs1 rfl)
            | false => rw [(hs2 rfl).1]; exact Nat.le_refl _
          refine bool_split (fun h2 => ?_) (fun h2 => ?_) <;> simp only [decide_eq_true_eq, decide_eq_false_iff_not, bne_iff_ne, ne_eq, bne_eq_false_iff_eq, beq_iff_eq, beq_eq_false_iff_ne, Bool.not_eq_true, Bool.not_eq_eq_eq_not, Bool.not_true, Bool.not_false, Classical.not_not, Int.not_lt, Int.not_le] at h2
          · simp -implicitDefEqProofs (disch := first | assumption | exact id rfl | omega | (simp only [AHeap.alloc_n, AHeap.put_n, SV.put_n, AHeap.kill_n, ne_eq, List.length_cons, List.length_nil]; omega)) only [s_Route_58, CW_cond, s_Route_59, s_Route_60, s_Route_61, SXs, cond_true, cond_false, env0, List.getElem?_cons_zero, List.getElem?_cons_succ, Nat.reduceEqDiff, if_true, if_false, ↓reduceIte, Nat.reduceAdd, Nat.zero_add, Nat.add_zero, Nat.mul_one, reduceCtorEq, condK_true, e8, ldO_at, hbx, ldC_cells, q0, Option.map_some, ias, hst]
            have hs := hset (.inl h2)
            refine fin _ true _ _ (by rfl) (by rfl) (by rfl) (by rfl) (by rfl) (by exact e12) hE3 (by omega) hd3 hh3 hs.1 (fun _ => by omega) (fun h => by cases h) _
          · simp -implicitDefEqProofs (disch := first | assumption | exact id rfl | omega | (simp only [AHeap.alloc_n, AHeap.put_n, SV.put_n, AHeap.kill_n, ne_eq, List.length_cons, List.length_nil]; omega)) only [s_Route_58, CW_cond, SXs, cond_true, cond_false, env0, List.getElem?_cons_zero, List.getElem?_cons_succ, Nat.reduceEqDiff, if_true, if_false, ↓reduceIte, Nat.reduceAdd, Nat.zero_add, Nat.add_zero, Nat.mul_one, reduceCtorEq, e8, ldO_at, hbx, ldC_cells, q0, Option.map_some, ias, iarr_ld hd2.arr]
            refine condK_of (fun h3 => ?_) (fun h3 => ?_) <;> simp only [decide_eq_true_eq, decide_eq_false_iff_not, bne_iff_ne, ne_eq, bne_eq_false_iff_eq, beq_iff_eq, beq_eq_false_iff_ne, Bool.not_eq_true, Bool.not_eq_eq_eq_not, Bool.not_true, Bool.not_false, Classical.not_not, Int.not_lt, Int.not_le] at h3
            · simp -implicitDefEqProofs (disch := first | assumption | exact id rfl | omega | (simp only [AHeap.alloc_n, AHeap.put_n, SV.put_n, AHeap.kill_n, ne_eq, List.length_cons, List.length_nil]; omega)) only [s_Route_59, s_Route_60, s_Route_61, SXs, cond_true, cond_false, env0, List.getElem?_cons_zero, List.getElem?_cons_succ, Nat.reduceEqDiff, if_true, if_false, ↓reduceIte, Nat.reduceAdd, Nat.zero_add, Nat.add_zero, Nat.mul_one, reduceCtorEq, condK_true, e8, ldO_at, hbx, ldC_cells, q0, Option.map_some, ias, hst]
              have hs := hset (.inr h3)
              refine fin _ true _ _ (by rfl) (by rfl) (by rfl) (by rfl) (by rfl) (by exact e12) hE3 (by omega) hd3 hh3 hs.1 (fun _ => by omega) (fun h => by cases h) _
            · exact fin ds sm _ _ (by rfl) (by rfl) (by rfl) (by rfl) (by exact e11) (by exact e12) hEG2 (by omega) hd2 hh2 fall hs1 (keep fun h0 => by simp only [gi, hfn, htn, Int.toNat_natCast]; exact ⟨h2, h3⟩) _
      · have hi0 : i = 0 := by omega
        subst hi0
        exact ⟨ds, sm, (by first | trivial | assumption), (by first | trivial | assumption), (by first | trivial | assumption), (by first | trivial | assumption), (by first | trivial | assumption), hEG, hGn, hd, hh, fall, hs1, fun h e he => by
          obtain ⟨k, hk, rfl⟩ := List.getElem_of_mem he
          exact (hs2 h).2 k _ (by omega) (List.getElem?_eq_getElem hk)⟩
    · clear e1 e7 e8 e9 hEG hGn hd hh fall
      rintro e G' hn' ⟨ds, sm, e1, e7, e8, e9, e11, hEG, hGn, hd, hh, fall, hs1, hs2⟩
      simp -implicitDefEqProofs (disch := first | assumption | exact id rfl | omega | (simp only [AHeap.alloc_n, AHeap.put_n, SV.put_n, AHeap.kill_n, ne_eq, List.length_cons, List.length_nil]; omega)) only [s_Route_63, s_Route_64, s_Route_65, CW_cond, SXs, cond_true, cond_false, env0, List.getElem?_cons_zero, List.getElem?_cons_succ, Nat.reduceEqDiff, if_true, if_false, ↓reduceIte, Nat.reduceAdd, Nat.zero_add, Nat.add_zero, Nat.mul_one, reduceCtorEq, e11]
      refine condK_of (fun h => ?_) (fun h => ?_) <;> simp only [decide_eq_true_eq, decide_eq_false_iff_not, bne_iff_ne, ne_eq, bne_eq_false_iff_eq, beq_iff_eq, beq_eq_false_iff_ne, Bool.not_eq_true, Bool.not_eq_eq_eq_not, Bool.not_true, Bool.not_false, Classical.not_not, Int.not_lt, Int.not_le] at h
      · exact ⟨ds, (by first | trivial | assumption), (by first | trivial | assumption), (by first | trivial | assumption), (by first | trivial | assumption), hEG, hGn, hd, hh, fall.done (hs2 h), fun u hu => by
          have := fall.hi u hu
          have := cnt_le ds
          rw [fall.len] at this
          omega⟩
      · exact ⟨mu ds, by rw [hn]; exact hs1 h, ds, rfl, e1, e7, e8, e9, hEG, hGn, hd, hh, fall⟩
  · clear e1 e7 e8 e9 hE2 hn2 hd2 hh2 fall hdl
    rintro e G' hn' ⟨ds', e1, e7, e8, e9, hEG, hGn', hd, hh, hdist, hbd⟩
    simp -implicitDefEqProofs (disch := first | assumption | exact id rfl | omega | (simp only [AHeap.alloc_n, AHeap.put_n, SV.put_n, AHeap.kill_n, ne_eq, List.length_cons, List.length_nil]; omega)) only [s_Route_66, s_Route_67, s_Route_68, s_Route_69, s_Route_70, SXs, cond_true, cond_false, env0, List.getElem?_cons_zero, List.getElem?_cons_succ, Nat.reduceEqDiff, if_true, if_false, ↓reduceIte, Nat.reduceAdd, Nat.zero_add, Nat.add_zero, Nat.mul_one, reduceCtorEq]
    have hdl := hdist.len
    refine CW_midq (fun e G => ∃ (hs : List Int), e 8 = some (SV.at R.n 0 N).v ∧ e 9 = some (SV.at (R.n + 1) 0 N).v ∧ Ext R G ∧ IOwn G (.at R.n 0 N) ds' ∧ IOwn G (.at (R.n + 1) 0 N) hs ∧ HopOk es N T ds' hs) ?_ ?_
    · refine CW_inv (fun n e G => ∃ (i : Nat) (hs : List Int), n = es.length - i ∧ i ≤ es.length ∧ e 1 = some (iv T) ∧ e 7 = some es_.v ∧ e 8 = some (SV.at R.n 0 N).v ∧ e 9 = some (SV.at (R.n + 1) 0 N).v ∧ e 15 = some (iv i) ∧ Ext R G ∧ R.n + 2 ≤ G.n ∧ IOwn G (.at R.n 0 N) ds' ∧ IOwn G (.at (R.n + 1) 0 N) hs ∧ HopOk (es.take i) N T ds' hs) es.length
        ⟨0, hs, by simp, by simp, e1, e7, e8, e9, rfl, hEG, hGn', hd, hh, HopOk.nil hhl hh0⟩ ?_
      clear e1 e7 e8 e9 hEG hGn' hd hh hh0 hhl hs hn' G'
      rintro n e G ⟨i, hs, hn, hi, e1, e7, e8, e9, e15, hEG, hGn, hd, hh, hop⟩
      simp -implicitDefEqProofs (disch := first | assumption | exact id rfl | omega | (simp only [AHeap.alloc_n, AHeap.put_n, SV.put_n, AHeap.kill_n, ne_eq, List.length_cons, List.length_nil]; omega)) only [s_Route_71, s_Route_72, s_Route_73, s_Route_74, CW_cond, SXs, cond_true, cond_false, env0, List.getElem?_cons_zero, List.getElem?_cons_succ, Nat.reduceEqDiff, if_true, if_false, ↓reduceIte, Nat.reduceAdd, Nat.zero_add, Nat.add_zero, Nat.mul_one, reduceCtorEq, e7, e15, hel]
      refine condK_of (fun h => ?_) (fun h => ?_) <;> simp only [decide_eq_true_eq, decide_eq_false_iff_not, bne_iff_ne, ne_eq, bne_eq_false_iff_eq, beq_iff_eq, beq_eq_false_iff_ne, Bool.not_eq_true, Bool.not_eq_eq_eq_not, Bool.not_true, Bool.not_false, Classical.not_not, Int.not_lt, Int.not_le] at h
      · obtain ⟨ed, hed⟩ : ∃ ed, es[i]? = some ed := ⟨_, List.getElem?_eq_getElem (by omega)⟩
        have hmem := List.mem_of_getElem? hed
        have k1 := eok.f ed hmem
        have k2 := eok.t ed hmem
        have k3 := eok.c ed hmem
        have k4 := eok.d ed hmem
        obtain ⟨fn, hfn⟩ : ∃ fn : Nat, ed.f = fn := ⟨ed.f.toNat, by omega⟩
        obtain ⟨tn, htn⟩ : ∃ tn : Nat, ed.t = tn := ⟨ed.t.toNat, by omega⟩
        have q0 : (EE.cs ed)[0]? = some (iv fn) := by rw [EE0, hfn]
        have q1 : (EE.cs ed)[1]? = some (iv tn) := by rw [EE1, htn]
        have hbnd := hbd tn (by omega)
        have hhl := hop.len
        have hbx := boxE_at (G := G) (e := ed)
        have hEb := boxE_ext (G := G) (e := ed)
        have hEG2 := hEG.trans hEb
        have hd2 := hd.ext hEb
        have hh2 := hh.ext hEb
        have hbn := boxE_n (G := G) (e := ed)
        simp -implicitDefEqProofs (disch := first | assumption | exact id rfl | omega | (simp only [AHeap.alloc_n, AHeap.put_n, SV.put_n, AHeap.kill_n, ne_eq, List.length_cons, List.length_nil]; omega)) only [s_Route_75, s_Route_76, s_Route_77, s_Route_78, s_Route_79, s_Route_80, s_Route_81, s_Route_82, CW_cond, SXs, cond_true, cond_false, env0, List.getElem?_cons_zero, List.getElem?_cons_succ, Nat.reduceEqDiff, if_true, if_false, ↓reduceIte, Nat.reduceAdd, Nat.zero_add, Nat.add_zero, Nat.mul_one, reduceCtorEq, e7, e8, e15, ldnE (heo.ext hEG).arr (by omega) hed, stO_at, alloc_at, EE_st, boxE_fold]
        generalize G.boxE ed = G2 at *
        have htk : es.take (i + 1) = es.take i ++ [ed] := by rw [List.take_add_one, hed]; rfl
        have hgg : ∀ v, good T ds' v ed → fn = v ∧ fn ≠ T ∧ 0 ≤ ds'.getD tn 0 ∧ ds'.getD tn 0 + ed.c = ds'.getD fn 0 := fun v hv => by
          obtain ⟨v1, v2, v3, v4⟩ := hv
          have hcv : fn = v := by omega
          subst hcv
          simp only [gi, htn, Int.toNat_natCast] at v3 v4
          exact ⟨rfl, v2, v3, v4⟩
        simp -implicitDefEqProofs (disch := first | assumption | exact id rfl | omega | (simp only [AHeap.alloc_n, AHeap.put_n, SV.put_n, AHeap.kill_n, ne_eq, List.length_cons, List.length_nil]; omega)) only [s_Route_80, s_Route_81, s_Route_82, CW_cond, DXs, and_true, true_and, Nat.reduceSub, List.length_cons, List.length_nil, SXs, cond_true, cond_false, env0, List.getElem?_cons_zero, List.getElem?_cons_succ, Nat.reduceEqDiff, if_true, if_false, ↓reduceIte, Nat.reduceAdd, Nat.zero_add, Nat.add_zero, Nat.mul_one, reduceCtorEq, e1, e8, ldO_at, hbx, ldC_cells, q0, q1, Option.map_some, ias]
        refine bool_split (fun h1 => ?_) (fun h1 => ?_) <;> simp only [decide_eq_true_eq, decide_eq_false_iff_not, bne_iff_ne, ne_eq, bne_eq_false_iff_eq, beq_iff_eq, beq_eq_false_iff_ne, Bool.not_eq_true, Bool.not_eq_eq_eq_not, Bool.not_true, Bool.not_false, Classical.not_not, Int.not_lt, Int.not_le] at h1
        · simp -implicitDefEqProofs (disch := first | assumption | exact id rfl | omega | (simp only [AHeap.alloc_n, AHeap.put_n, SV.put_n, AHeap.kill_n, ne_eq, List.length_cons, List.length_nil]; omega)) only [s_Route_82, CW_cond, s_Route_87, SXs, cond_true, cond_false, env0, List.getElem?_cons_zero, List.getElem?_cons_succ, Nat.reduceEqDiff, if_true, if_false, ↓reduceIte, Nat.reduceAdd, Nat.zero_add, Nat.add_zero, Nat.mul_one, reduceCtorEq, condK_true, e15]
          exact ⟨es.length - (i + 1), by omega, i + 1, hs, rfl, by omega, e1, e7, e8, e9, rfl, hEG2, by omega, hd2, hh2, by rw [htk]; exact hop.skip fun v hv => absurd (hgg v hv).2.1 (by omega)⟩
        simp -implicitDefEqProofs (disch := first | assumption | exact id rfl | omega | (simp only [AHeap.alloc_n, AHeap.put_n, SV.put_n, AHeap.kill_n, ne_eq, List.length_cons, List.length_nil]; omega)) only [SXs, cond_true, cond_false, env0, List.getElem?_cons_zero, List.getElem?_cons_succ, Nat.reduceEqDiff, if_true, if_false, ↓reduceIte, Nat.reduceAdd, Nat.zero_add, Nat.add_zero, Nat.mul_one, reduceCtorEq, e8, ldO_at, hbx, ldC_cells, q1, Option.map_some, ias, iarr_ld hd2.arr]
        refine bool_split (fun h2 => ?_) (fun h2 => ?_) <;> simp only [decide_eq_true_eq, decide_eq_false_iff_not, bne_iff_ne, ne_eq, bne_eq_false_iff_eq, beq_iff_eq, beq_eq_false_iff_ne, Bool.not_eq_true, Bool.not_eq_eq_eq_not, Bool.not_true, Bool.not_false, Classical.not_not, Int.not_lt, Int.not_le] at h2
        · simp -implicitDefEqProofs (disch := first | assumption | exact id rfl | omega | (simp only [AHeap.alloc_n, AHeap.put_n, SV.put_n, AHeap.kill_n, ne_eq, List.length_cons, List.length_nil]; omega)) only [s_Route_82, CW_cond, s_Route_87, SXs, cond_true, cond_false, env0, List.getElem?_cons_zero, List.getElem?_cons_succ, Nat.reduceEqDiff, if_true, if_false, ↓reduceIte, Nat.reduceAdd, Nat.zero_add, Nat.add_zero, Nat.mul_one, reduceCtorEq, condK_true, e15]
          exact ⟨es.length - (i + 1), by omega, i + 1, hs, rfl, by omega, e1, e7, e8, e9, rfl, hEG2, by omega, hd2, hh2, by rw [htk]; exact hop.skip fun v hv => by have := (hgg v hv).2.2.1; omega⟩
        simp -implicitDefEqProofs (disch := first | assumption | exact id rfl | omega | (simp only [AHeap.alloc_n, AHeap.put_n, SV.put_n, AHeap.kill_n, ne_eq, List.length_cons, List.length_nil]; omega)) only [s_Route_82, CW_cond, SXs, cond_true, cond_false, env0, List.getElem?_cons_zero, List.getElem?_cons_succ, Nat.reduceEqDiff, if_true, if_false, ↓reduceIte, Nat.reduceAdd, Nat.zero_add, Nat.add_zero, Nat.mul_one, reduceCtorEq, e8, ldO_at, hbx, ldC_cells, q0, q1, EE3, Option.map_some, ias, iarr_ld hd2.arr]
        refine condK_of (fun h3 => ?_) (fun h3 => ?_) <;> simp only [decide_eq_true_eq, decide_eq_false_iff_not, bne_iff_ne, ne_eq, bne_eq_false_iff_eq, beq_iff_eq, beq_eq_false_iff_ne, Bool.not_eq_true, Bool.not_eq_eq_eq_not, Bool.not_true, Bool.not_false, Classical.not_not, Int.not_lt, Int.not_le] at h3
        · simp -implicitDefEqProofs (disch := first | assumption | exact id rfl | omega | (simp only [AHeap.alloc_n, AHeap.put_n, SV.put_n, AHeap.kill_n, ne_eq, List.length_cons, List.length_nil]; omega)) only [s_Route_87, SXs, cond_true, cond_false, env0, List.getElem?_cons_zero, List.getElem?_cons_succ, Nat.reduceEqDiff, if_true, if_false, ↓reduceIte, Nat.reduceAdd, Nat.zero_add, Nat.add_zero, Nat.mul_one, reduceCtorEq, e15]
          exact ⟨es.length - (i + 1), by omega, i + 1, hs, rfl, by omega, e1, e7, e8, e9, rfl, hEG2, by omega, hd2, hh2, by rw [htk]; exact hop.skip fun v hv => h3 (hgg v hv).2.2.2⟩
        have hgood : good T ds' fn ed := ⟨hfn, by omega, by simp only [gi, htn, Int.toNat_natCast]; exact h2, by simp only [gi, htn, Int.toNat_natCast]; exact h3⟩
        have hes0 : ∀ e ∈ es.take i, 0 ≤ e.d := fun e he => (eok.d e (List.mem_of_mem_take he)).1
        have htake : hs.getD fn 0 < 0 ∨ ed.d < hs.getD fn 0 → HopOk (es.take (i + 1)) N T ds' (hs.set fn ed.d) := fun hor => by
          rw [htk]
          have := hop.take (e := ed) hes0 k1 k4.1 (by rw [hfn, Int.toNat_natCast]; exact hgood) (by simpa only [gi, hfn, Int.toNat_natCast] using hor)
          simpa only [hfn, Int.toNat_natCast] using this
        have hst := iown_st (n := ed.d) hh2 (show fn < hs.length by omega)
        have hh3 := iown_put (n := ed.d) hh2 (show fn < hs.length by omega)
        have hd3 := hd2.sput (j := fn) (vs := [iv ed.d]) hdh.symm
        have hE3 : Ext R ((SV.at (R.n + 1) 0 N).put G2 fn [iv ed.d]) := hEG2.sput fun b hb => by simp only [SV.off]; omega
        have hn3 : ((SV.at (R.n + 1) 0 N).put G2 fn [iv ed.d]).n = G.n + 1 := by rw [SV.put_n, hbn]
        simp -implicitDefEqProofs (disch := first | assumption | exact id rfl | omega | (simp only [AHeap.alloc_n, AHeap.put_n, SV.put_n, AHeap.kill_n, ne_eq, List.length_cons, List.length_nil]; omega)) only [s_Route_83, s_Route_84, s_Route_85, CW_cond, SXs, cond_true, cond_false, env0, List.getElem?_cons_zero, List.getElem?_cons_succ, Nat.reduceEqDiff, if_true, if_false, ↓reduceIte, Nat.reduceAdd, Nat.zero_add, Nat.add_zero, Nat.mul_one, reduceCtorEq, e9, ldO_at, hbx, ldC_cells, q0, Option.map_some, ias, iarr_ld hh2.arr]
        refine bool_split (fun h4 => ?_) (fun h4 => ?_) <;> simp only [decide_eq_true_eq, decide_eq_false_iff_not, bne_iff_ne, ne_eq, bne_eq_false_iff_eq, beq_iff_eq, beq_eq_false_iff_ne, Bool.not_eq_true, Bool.not_eq_eq_eq_not, Bool.not_true, Bool.not_false, Classical.not_not, Int.not_lt, Int.not_le] at h4
        · simp -implicitDefEqProofs (disch := first | assumption | exact id rfl | omega | (simp only [AHeap.alloc_n, AHeap.put_n, SV.put_n, AHeap.kill_n, ne_eq, List.length_cons, List.length_nil]; omega)) only [s_Route_83, s_Route_84, s_Route_85, CW_cond, s_Route_86, s_Route_87, SXs, cond_true, cond_false, env0, List.getElem?_cons_zero, List.getElem?_cons_succ, Nat.reduceEqDiff, if_true, if_false, ↓reduceIte, Nat.reduceAdd, Nat.zero_add, Nat.add_zero, Nat.mul_one, reduceCtorEq, condK_true, e9, e15, ldO_at, hbx, ldC_cells, q0, EE2, Option.map_some, ias, hst]
          exact ⟨es.length - (i + 1), by omega, i + 1, _, rfl, by omega, e1, e7, e8, e9, rfl, hE3, by omega, hd3, hh3, htake (.inl h4)⟩
        simp -implicitDefEqProofs (disch := first | assumption | exact id rfl | omega | (simp only [AHeap.alloc_n, AHeap.put_n, SV.put_n, AHeap.kill_n, ne_eq, List.length_cons, List.length_nil]; omega)) only [s_Route_83, s_Route_84, s_Route_85, CW_cond, SXs, cond_true, cond_false, env0, List.getElem?_cons_zero, List.getElem?_cons_succ, Nat.reduceEqDiff, if_true, if_false, ↓reduceIte, Nat.reduceAdd, Nat.zero_add, Nat.add_zero, Nat.mul_one, reduceCtorEq, e9, ldO_at, hbx, ldC_cells, q0, EE2, Option.map_some, ias, iarr_ld hh2.arr]
        refine condK_of (fun h5 => ?_) (fun h5 => ?_) <;> simp only [decide_eq_true_eq, decide_eq_false_iff_not, bne_iff_ne, ne_eq, bne_eq_false_iff_eq, beq_iff_eq, beq_eq_false_iff_ne, Bool.not_eq_true, Bool.not_eq_eq_eq_not, Bool.not_true, Bool.not_false, Classical.not_not, Int.not_lt, Int.not_le] at h5
        · simp -implicitDefEqProofs (disch := first | assumption | exact id rfl | omega | (simp only [AHeap.alloc_n, AHeap.put_n, SV.put_n, AHeap.kill_n, ne_eq, List.length_cons, List.length_nil]; omega)) only [s_Route_86, s_Route_87, SXs, cond_true, cond_false, env0, List.getElem?_cons_zero, List.getElem?_cons_succ, Nat.reduceEqDiff, if_true, if_false, ↓reduceIte, Nat.reduceAdd, Nat.zero_add, Nat.add_zero, Nat.mul_one, reduceCtorEq, condK_true, e9, e15, ldO_at, hbx, ldC_cells, q0, EE2, Option.map_some, ias, hst]
          exact ⟨es.length - (i + 1), by omega, i + 1, _, rfl, by omega, e1, e7, e8, e9, rfl, hE3, by omega, hd3, hh3, htake (.inr h5)⟩
        · simp -implicitDefEqProofs (disch := first | assumption | exact id rfl | omega | (simp only [AHeap.alloc_n, AHeap.put_n, SV.put_n, AHeap.kill_n, ne_eq, List.length_cons, List.length_nil]; omega)) only [s_Route_87, SXs, cond_true, cond_false, env0, List.getElem?_cons_zero, List.getElem?_cons_succ, Nat.reduceEqDiff, if_true, if_false, ↓reduceIte, Nat.reduceAdd, Nat.zero_add, Nat.add_zero, Nat.mul_one, reduceCtorEq, e15]
          exact ⟨es.length - (i + 1), by omega, i + 1, hs, rfl, by omega, e1, e7, e8, e9, rfl, hEG2, by omega, hd2, hh2, by rw [htk]; exact hop.keep (by simpa only [gi, hfn, Int.toNat_natCast] using h4) (by simpa only [gi, hfn, Int.toNat_natCast] using h5)⟩
      · have hil : i = es.length := by omega
        rw [hil, List.take_length] at hop
        exact ⟨hs, (by first | trivial | assumption), (by first | trivial | assumption), hEG, hd, hh, hop⟩
    · rintro e G hn ⟨hs, e8, e9, hEG, hd, hh, hop⟩
      simp -implicitDefEqProofs (disch := first | assumption | exact id rfl | omega | (simp only [AHeap.alloc_n, AHeap.put_n, SV.put_n, AHeap.kill_n, ne_eq, List.length_cons, List.length_nil]; omega)) only [s_Route_88, s_Route_89, aop_ld, aop_ldn, bodyK_ret, bodyK_normal, resL, resV, Option.map_some, oneV, blockK_exit, seqK_exit, seqK_ret, blockK_ret, loopK_exit, loopK_ret, rs_s_Route, SXs, cond_true, cond_false, env0, List.getElem?_cons_zero, List.getElem?_cons_succ, Nat.reduceEqDiff, if_true, if_false, ↓reduceIte, Nat.reduceAdd, Nat.zero_add, Nat.add_zero, Nat.mul_one, reduceCtorEq, aop_ld, aop_ldn, bodyK_ret, bodyK_normal, resL, resV, Option.map_some, oneV, blockK_exit, seqK_exit, seqK_ret, blockK_ret, loopK_exit, loopK_ret, e8, e9]
      refine ⟨_, _, ds', hs, 0, rfl, hd, hh, hdh, hER.trans hEG, fun k hk => ⟨by simp only [SV.off]; omega, by simp only [SV.off]; omega⟩, .inl ⟨ok, by omega, by omega, rfl, es, hes, ?_, ?_⟩⟩
      · rw [hN', Int.toNat_natCast]; exact hdist
      · rw [hN', Int.toNat_natCast]; exact hop
end Go.AB
