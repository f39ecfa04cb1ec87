/- The edges turned around, as the specification does it; what is reached. -/
import Derived.Test.YtnbamdhmhnhneaaT20
import Derived.Test.YtnbamdhmhnhneaaL3
set_option linter.unusedVariables false
set_option linter.unusedSimpArgs false
set_option maxRecDepth 10000
set_option maxHeartbeats 2000000
namespace Go.AB
open Go.Proofs
variable {w0 : World} {H : AHeap}

theorem EE_build {a b c d : Int} : buildO [.int .i64 0, .int .i64 0, .int .i64 0, .int .i64 0] [(0, 1), (1, 1), (2, 1), (3, 1)] (some [(0, iv a), (1, iv b), (2, iv c), (3, iv d)]) H = some (.agg (EE.cs (E4.mk a b c d)).toArray, H) := rfl
theorem specReverse_rets {g : GV} {x : GD} {es : List E4} (hg : GArr H g x) (ok : x.Ok) (hes : x.Edges es) : Rets Go.Proofs.Try.prog w0 26 [g.v] H fun v H' => ∃ g' : GV, v = .tuple #[g'.v, iv 0] ∧ GOwn H' g' (gOf x.n.toNat (es.map E4.rev)) ∧ Ext H H' ∧ ∀ b, b < H.n → g'.off b := by
  obtain ⟨N, hN⟩ : ∃ N : Nat, x.n = N := ⟨x.n.toNat, by have := ok.n; omega⟩
  have hN' : x.n.toNat = N := by omega
  have ⟨eok, elen⟩ := edges_ok ok hes
  have o_n := ok.n
  rw [hN'] at eok ⊢
  rw [hN] at o_n
  have hgn := hg.n
  rw [hN] at hgn
  refine rets_fun rfl cf_s_Reverse (body_of ?_)
  have hR : ∃ R : AHeap, ((H.alloc (.cells g.cs 28)).alloc (.cells [.int .i64 0, .slice none 0 0, .slice none 0 0, .slice none 0 0, .slice none 0 0] 28)) = R ∧ R.n = H.n + 2 ∧ R.get H.n = .cells g.cs 28 ∧ R.get (H.n + 1) = .cells (GV.mk 0 .nil .nil .nil .nil).cs 28 ∧ Ext H R := by
    refine ⟨_, rfl, rfl, ?_, ?_, ((Ext.refl H).allocs _).allocs _⟩
    · rw [AHeap.alloc_ne _ _ (by simp), AHeap.alloc_self]
    · rw [show H.n + 1 = (H.alloc (.cells g.cs 28)).n from rfl, AHeap.alloc_self]; rfl
  obtain ⟨R, hR0, hRn, hb, hr, hHR⟩ := hR
  simp -implicitDefEqProofs (disch := first | assumption | exact id rfl | omega | (simp only [AHeap.alloc_n, AHeap.put_n, SV.put_n, AHeap.kill_n, ne_eq, List.length_cons, List.length_nil]; omega)) only [s_Reverse_0, s_Reverse_1, SXs, cond_true, cond_false, env0, List.getElem?_cons_zero, List.getElem?_cons_succ, Nat.reduceEqDiff, if_true, if_false, ↓reduceIte, Nat.reduceAdd, Nat.zero_add, Nat.add_zero, Nat.mul_one, reduceCtorEq, boxO_agg, hR0, AHeap.alloc_n]
  simp -implicitDefEqProofs (disch := first | assumption | exact id rfl | omega | (simp only [AHeap.alloc_n, AHeap.put_n, SV.put_n, AHeap.kill_n, ne_eq, List.length_cons, List.length_nil]; omega)) only [s_Reverse_2, s_Reverse_3, s_Reverse_4, s_Reverse_5, CW_cond, SXs, cond_true, cond_false, env0, List.getElem?_cons_zero, List.getElem?_cons_succ, Nat.reduceEqDiff, if_true, if_false, ↓reduceIte, Nat.reduceAdd, Nat.zero_add, Nat.add_zero, Nat.mul_one, reduceCtorEq, ldnO_at, hb, ldnC_cells, gv_seg, Option.map_some]
  refine (specValidGraph_rets (hg.ext hHR) (by have h1 := ok.t; have h2 := ok.d; have h3 := ok.c; have h4 := ok.s; have h5 := ok.m; unfold GD.size; omega)).mono ?_
  rintro _ G1 hn1 ⟨⟨bb, rfl, hbb⟩, hE1⟩
  have hbt : bb = true := hbb.2 ok
  subst hbt
  have hb1 : G1.get H.n = .cells g.cs 28 := by rw [hE1.2 _ (by omega)]; exact hb
  simp -implicitDefEqProofs (disch := first | assumption | exact id rfl | omega | (simp only [AHeap.alloc_n, AHeap.put_n, SV.put_n, AHeap.kill_n, ne_eq, List.length_cons, List.length_nil]; omega)) only [s_Reverse_8, s_Reverse_9, s_Reverse_10, s_Reverse_11, s_Reverse_12, s_Reverse_13, s_Reverse_14, s_Reverse_15, s_Reverse_16, s_Reverse_10, s_Reverse_11, s_Reverse_12, s_Reverse_13, s_Reverse_14, s_Reverse_15, s_Reverse_16, SXs, cond_true, cond_false, env0, List.getElem?_cons_zero, List.getElem?_cons_succ, Nat.reduceEqDiff, if_true, if_false, ↓reduceIte, Nat.reduceAdd, Nat.zero_add, Nat.add_zero, Nat.mul_one, reduceCtorEq, Bool.not_true, condK_false, ldnO_at, hb1, ldnC_cells, gv_seg, Option.map_some]
  refine (l5edges_rets (hg.ext (hHR.trans hE1)) ok).mono ?_
  rintro _ G2 hn2 ⟨es_, es', rfl, heo, hes', hE2, heoff⟩
  have := Edges.uniq ok hes' hes
  subst this
  have heo : EOw G2 es_ es' := heo
  have hel : es_.len = es'.length := enc_len heo.arr (by omega)
  have hER := (hHR.trans hE1).trans hE2
  have hbG : ∀ F, Ext G2 F → F.get H.n = .cells g.cs 28 := fun F hF => by rw [hF.2 _ (by omega), hE2.2 _ (by omega)]; exact hb1
  have hrG : ∀ F, Ext G2 F → F.get (H.n + 1) = .cells (GV.mk 0 .nil .nil .nil .nil).cs 28 := fun F hF => by rw [hF.2 _ (by omega), hE2.2 _ (by omega), hE1.2 _ (by omega)]; exact hr
  refine CW_midq (fun e G => ∃ sv : SV, e 1 = some (pt H.n 0) ∧ e 2 = some (pt (H.n + 1) 0) ∧ e 5 = some sv.v ∧ EOw G sv (es'.map E4.rev) ∧ Ext G2 G) ?_ ?_
  · refine CW_inv (fun n e G => ∃ (i : Nat) (sv : SV), n = es'.length - i ∧ i ≤ es'.length ∧ e 1 = some (pt H.n 0) ∧ e 2 = some (pt (H.n + 1) 0) ∧ e 4 = some es_.v ∧ e 5 = some sv.v ∧ e 6 = some (iv i) ∧ EOw G sv ((es'.take i).map E4.rev) ∧ Ext G2 G ∧ ∀ k, k < G2.n → sv.off k) es'.length
      ⟨0, .nil, by simp, by simp, rfl, rfl, rfl, rfl, rfl, by rw [List.take_zero]; exact Own.nil, Ext.refl _, fun _ _ => trivial⟩ ?_
    rintro n e G ⟨i, sv, hn, hi, e1, e2, e4, e5, e6, hs, hE, hoff⟩
    simp -implicitDefEqProofs (disch := first | assumption | exact id rfl | omega | (simp only [AHeap.alloc_n, AHeap.put_n, SV.put_n, AHeap.kill_n, ne_eq, List.length_cons, List.length_nil]; omega)) only [s_Reverse_17, s_Reverse_18, s_Reverse_19, s_Reverse_20, CW_cond, SXs, cond_true, cond_false, env0, List.getElem?_cons_zero, List.getElem?_cons_succ, Nat.reduceEqDiff, if_true, if_false, ↓reduceIte, Nat.reduceAdd, Nat.zero_add, Nat.add_zero, Nat.mul_one, reduceCtorEq, e4, e6, hel]
    refine condK_of (fun h => ?_) (fun h => ?_) <;> simp only [decide_eq_true_eq, decide_eq_false_iff_not, bne_iff_ne, ne_eq, bne_eq_false_iff_eq, beq_iff_eq, beq_eq_false_iff_ne, Bool.not_eq_true, Bool.not_eq_eq_eq_not, Bool.not_true, Bool.not_false, Classical.not_not, Int.not_lt, Int.not_le] at h
    · obtain ⟨ed, hed⟩ : ∃ ed, es'[i]? = some ed := ⟨_, List.getElem?_eq_getElem (by omega)⟩
      have hsl := enc_len hs.arr (by omega)
      simp only [List.length_map, List.length_take] at hsl
      have hbx := boxE_at (G := G) (e := ed)
      have hEb := boxE_ext (G := G) (e := ed)
      have hbn := boxE_n (G := G) (e := ed)
      simp -implicitDefEqProofs (disch := first | assumption | exact id rfl | omega | (simp only [AHeap.alloc_n, AHeap.put_n, SV.put_n, AHeap.kill_n, ne_eq, List.length_cons, List.length_nil]; omega)) only [s_Reverse_21, s_Reverse_22, s_Reverse_23, s_Reverse_24, s_Reverse_25, s_Reverse_26, SXs, cond_true, cond_false, env0, List.getElem?_cons_zero, List.getElem?_cons_succ, Nat.reduceEqDiff, if_true, if_false, ↓reduceIte, Nat.reduceAdd, Nat.zero_add, Nat.add_zero, Nat.mul_one, reduceCtorEq, e4, e6, ldnE (heo.ext hE).arr (by omega) hed, stO_at, alloc_at, EE_st, boxE_fold]
      have hs2 := hs.ext hEb
      have hE2' := hE.trans hEb
      generalize G.boxE ed = G3 at *
      have hap := app1_own (ds := EE.cs (E4.mk ed.t ed.f ed.d ed.c)) hs2 rfl
      rw [← Enc.all_one (E := EE), ← Enc.all_app, Enc.all_one] at hap
      simp -implicitDefEqProofs (disch := first | assumption | exact id rfl | omega | (simp only [AHeap.alloc_n, AHeap.put_n, SV.put_n, AHeap.kill_n, ne_eq, List.length_cons, List.length_nil]; omega)) only [SXs, cond_true, cond_false, env0, List.getElem?_cons_zero, List.getElem?_cons_succ, Nat.reduceEqDiff, if_true, if_false, ↓reduceIte, Nat.reduceAdd, Nat.zero_add, Nat.add_zero, Nat.mul_one, reduceCtorEq, e5, e6, ldO_at, hbx, ldC_cells, EE0, EE1, EE2, EE3, Option.map_some, EE_build, EE_mk, appO_one (bytes := 32) (ds := EE.cs (E4.mk ed.t ed.f ed.d ed.c)) hs2 rfl (by omega) (by omega)]
      refine ⟨es'.length - (i + 1), by omega, i + 1, _, rfl, by omega, e1, e2, e4, rfl, rfl, ?_, hE2'.app1 hoff, fun k hk => ?_⟩
      · rw [List.take_add_one, hed, List.map_append]; exact hap
      · have := hE2'.1
        simp only [SV.off]; omega
    · have hil : i = es'.length := by omega
      subst hil
      rw [List.take_length] at hs
      exact ⟨sv, (by first | trivial | assumption), (by first | trivial | assumption), (by first | trivial | assumption), hs, hE⟩
  · rintro e G hn ⟨sv, e1, e2, e5, hs, hE⟩
    simp -implicitDefEqProofs (disch := first | assumption | exact id rfl | omega | (simp only [AHeap.alloc_n, AHeap.put_n, SV.put_n, AHeap.kill_n, ne_eq, List.length_cons, List.length_nil]; omega)) only [s_Reverse_27, s_Reverse_28, aop_ld, aop_ldn, bodyK_ret, bodyK_normal, resL, resV, Option.map_some, oneV, blockK_exit, seqK_exit, seqK_ret, blockK_ret, loopK_exit, loopK_ret, rs_s_Reverse, SXs, cond_true, cond_false, env0, List.getElem?_cons_zero, List.getElem?_cons_succ, Nat.reduceEqDiff, if_true, if_false, ↓reduceIte, Nat.reduceAdd, Nat.zero_add, Nat.add_zero, Nat.mul_one, reduceCtorEq, e1, e2, e5, ldO_at, hbG G hE, ldC_cells, GV.get0, hgn, Option.map_some]
    refine (l5graph_rets hs.arr (rev_ok eok) (by omega) (by simpa using elen)).mono ?_
    rintro _ G4 hn4 ⟨g', rfl, hgo, hE4, hgoff⟩
    have hE5 := hE.trans hE4
    simp -implicitDefEqProofs (disch := first | assumption | exact id rfl | omega | (simp only [AHeap.alloc_n, AHeap.put_n, SV.put_n, AHeap.kill_n, ne_eq, List.length_cons, List.length_nil]; omega)) only [SXs, cond_true, cond_false, env0, List.getElem?_cons_zero, List.getElem?_cons_succ, Nat.reduceEqDiff, if_true, if_false, ↓reduceIte, Nat.reduceAdd, Nat.zero_add, Nat.add_zero, Nat.mul_one, reduceCtorEq, aop_ld, aop_ldn, bodyK_ret, bodyK_normal, resL, resV, Option.map_some, oneV, blockK_exit, seqK_exit, seqK_ret, blockK_ret, loopK_exit, loopK_ret, e2, stO_at, hrG G4 hE5, gv_stn, ldnO_at, put_at, putC_cells, ldnC_cells, gv_spl, gv_seg]
    refine ⟨g', rfl, hgo.put' (hgoff _ (by have := hE.1; omega)), (hER.trans hE5).put (by omega), fun b hb => hgoff b (by have := hER.1; have := hE.1; omega)⟩
end Go.AB
