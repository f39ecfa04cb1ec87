/- Components, as the specification finds them. -/
import Derived.Test.YtnbamdhmhnhneaaT22
set_option linter.unusedVariables false
set_option linter.unusedSimpArgs false
set_option maxRecDepth 10000
set_option maxHeartbeats 2000000
namespace Go.AB
open Go.Proofs
variable {w0 : World} {H : AHeap}

theorem CompIs.uniq {E : Nat → Nat → Prop} {N : Nat} {os os' : List Int} (h : CompIs E N os) (h' : CompIs E N os') : os = os' :=
  getD_ext (by rw [h.len, h'.len]) fun j hj => (h.at' j (by rw [← h.len]; exact hj)).uniq (h'.at' j (by rw [← h.len]; exact hj))
def CompsIs (x : GD) (os : List Int) (c : Int) : Prop := (x.Ok ∧ c = 0 ∧ ∃ es, x.Edges es ∧ CompIs (ER es) x.n.toNat os) ∨ (¬ x.Ok ∧ c = 1 ∧ os = [])
theorem CompsIs.uniq {x : GD} {os os' : List Int} {c c' : Int} (h : CompsIs x os c) (h' : CompsIs x os' c') : os = os' ∧ c = c' := by
  rcases h with ⟨ok, rfl, es, he, hc⟩ | ⟨hn, rfl, rfl⟩
  · rcases h' with ⟨-, rfl, es', he', hc'⟩ | ⟨hn, -⟩
    · have := Edges.uniq ok he he'
      subst this
      exact ⟨hc.uniq hc', rfl⟩
    · exact absurd ok hn
  · rcases h' with ⟨ok, -⟩ | ⟨-, rfl, rfl⟩
    · exact absurd ok hn
    · exact ⟨rfl, rfl⟩
theorem CompsIs.len {x : GD} {os : List Int} {c : Int} (h : CompsIs x os c) : os.length ≤ 1600 := by
  rcases h with ⟨ok, rfl, es, he, hc⟩ | ⟨hn, rfl, rfl⟩
  · have := ok.n; have := hc.len; omega
  · simp
def CompRes (H H' : AHeap) (v : Value) (x : GD) : Prop := ∃ (o : SV) (os : List Int) (c : Int), v = .tuple #[o.v, iv c] ∧ IOwn H' o os ∧ Ext H H' ∧ (∀ k, k < H.n → o.off k) ∧ CompsIs x os c
theorem Rch.flip {E F : Nat → Nat → Prop} (h : ∀ u v, E u v → F v u) {a b : Nat} (r : Rch E a b) : Rch F b a := by
  induction r with
  | refl => exact .refl _
  | step _ e ih => exact (Rch.edge (h _ _ e)).trans ih
theorem ER_back {es : List E4} {N : Nat} (ok : EsOk es N) (u v : Nat) : ER (rowsE (es.map E4.rev) N) u v ↔ ER es v u := by
  constructor
  · rintro ⟨e, he, h1, h2⟩
    obtain ⟨he, -, -⟩ := mem_rowsE.1 he
    obtain ⟨e', he', rfl⟩ := List.mem_map.1 he
    exact ⟨e', he', h2, h1⟩
  · rintro ⟨e, he, h1, h2⟩
    have := ok.t e he
    exact ⟨e.rev, mem_rowsE.2 ⟨List.mem_map.2 ⟨e, he, rfl⟩, this.1, this.2⟩, h2, h1⟩
theorem Rch_back {es : List E4} {N : Nat} (ok : EsOk es N) (a b : Nat) : Rch (ER (rowsE (es.map E4.rev) N)) a b ↔ Rch (ER es) b a :=
  ⟨Rch.flip fun u v h => (ER_back ok u v).1 h, Rch.flip fun u v h => (ER_back ok v u).2 h⟩

/-- What holds behind the cells below c. -/
def CJ (E : Nat → Nat → Prop) (N c : Nat) (os : List Int) : Prop := ∀ v, v < N → (os.getD v 0 = -1 ∧ ∀ r, r < c → ¬ Both E v r) ∨ (0 ≤ os.getD v 0 ∧ os.getD v 0 < c ∧ Least E N v (os.getD v 0))
theorem CJ.skip {E : Nat → Nat → Prop} {N c : Nat} {os : List Int} (h : CJ E N c os) (hc : c < N) (h0 : 0 ≤ os.getD c 0) : CJ E N (c + 1) os := fun v hv => by
  rcases h v hv with ⟨h1, h2⟩ | ⟨h1, h2, h3⟩
  · refine .inl ⟨h1, fun r hr hb => ?_⟩
    by_cases hrc : r = c
    · subst hrc
      rcases h r hc with ⟨h4, -⟩ | ⟨-, h5, z, h6, h7, h8, -⟩
      · omega
      · exact h2 z (by omega) (hb.trans h8)
    · exact h2 r (by omega) hb
  · exact .inr ⟨h1, by omega, h3⟩
theorem CJ.step {E : Nat → Nat → Prop} {N c : Nat} {os os' : List Int} (h : CJ E N c os) (hc : c < N) (h0 : os.getD c 0 < 0) (ho : ∀ v, v < N → (Both E v c → os'.getD v 0 = c) ∧ (¬ Both E v c → os'.getD v 0 = os.getD v 0)) : CJ E N (c + 1) os' := fun v hv => by
  have hcc : ∀ r, r < c → ¬ Both E c r := by
    rcases h c hc with ⟨-, h2⟩ | ⟨h1, -⟩
    · exact h2
    · omega
  by_cases hb : Both E v c
  · rw [(ho v hv).1 hb]
    refine .inr ⟨by omega, by omega, c, rfl, hc, hb, fun u hu hbu => ?_⟩
    exact Nat.le_of_not_lt fun hlt => hcc u hlt (hb.symm.trans hbu)
  · rw [(ho v hv).2 hb]
    rcases h v hv with ⟨h1, h2⟩ | ⟨h1, h2, h3⟩
    · refine .inl ⟨h1, fun r hr hbr => ?_⟩
      by_cases hrc : r = c
      · subst hrc; exact hb hbr
      · exact h2 r (by omega) hbr
    · exact .inr ⟨h1, by omega, h3⟩

theorem specComponents_rets {g : GV} {x : GD} (hg : GArr H g x) (hx : x.size ≤ 2 ^ 60) : Rets Go.Proofs.Try.prog w0 14 [g.v] H fun v H' => CompRes H H' v x := by
  refine rets_fun rfl cf_s_Components (body_of ?_)
  have hE0 : Ext H (H.alloc (.cells g.cs 28)) := Ext.alloc _ _
  have hb0 : (H.alloc (.cells g.cs 28)).get H.n = .cells g.cs 28 := AHeap.alloc_self _ _
  have hn0 : (H.alloc (.cells g.cs 28)).n = H.n + 1 := rfl
  simp -implicitDefEqProofs (disch := first | assumption | exact id rfl | omega | (simp only [AHeap.alloc_n, AHeap.put_n, SV.put_n, AHeap.kill_n, ne_eq, List.length_cons, List.length_nil]; omega)) only [s_Components_0, s_Components_1, SXs, cond_true, cond_false, env0, List.getElem?_cons_zero, List.getElem?_cons_succ, Nat.reduceEqDiff, if_true, if_false, ↓reduceIte, Nat.reduceAdd, Nat.zero_add, Nat.add_zero, Nat.mul_one, reduceCtorEq, boxO_agg]
  generalize H.alloc (.cells g.cs 28) = G0 at *
  simp -implicitDefEqProofs (disch := first | assumption | exact id rfl | omega | (simp only [AHeap.alloc_n, AHeap.put_n, SV.put_n, AHeap.kill_n, ne_eq, List.length_cons, List.length_nil]; omega)) only [s_Components_2, s_Components_3, s_Components_4, s_Components_5, CW_cond, SXs, cond_true, cond_false, env0, List.getElem?_cons_zero, List.getElem?_cons_succ, Nat.reduceEqDiff, if_true, if_false, ↓reduceIte, Nat.reduceAdd, Nat.zero_add, Nat.add_zero, Nat.mul_one, reduceCtorEq, ldnO_at, hb0, ldnC_cells, gv_seg, Option.map_some]
  refine (specValidGraph_rets (hg.ext hE0) hx).mono ?_
  rintro _ G1 hn1 ⟨⟨bb, rfl, hbb⟩, hE1⟩
  have hE := hE0.trans hE1
  have hb : G1.get H.n = .cells g.cs 28 := by rw [hE1.2 _ (by omega)]; exact hb0
  rw [hn0] at hn1
  by_cases ok : x.Ok
  case neg =>
    have : bb = false := by cases bb with
      | false => rfl
      | true => exact absurd (hbb.1 rfl) ok
    subst this
    simp -implicitDefEqProofs (disch := first | assumption | exact id rfl | omega | (simp only [AHeap.alloc_n, AHeap.put_n, SV.put_n, AHeap.kill_n, ne_eq, List.length_cons, List.length_nil]; omega)) only [SXs, cond_true, cond_false, env0, List.getElem?_cons_zero, List.getElem?_cons_succ, Nat.reduceEqDiff, if_true, if_false, ↓reduceIte, Nat.reduceAdd, Nat.zero_add, Nat.add_zero, Nat.mul_one, reduceCtorEq, Bool.not_false, condK_true, s_Components_6, s_Components_7, aop_ld, aop_ldn, bodyK_ret, bodyK_normal, resL, resV, Option.map_some, oneV, blockK_exit, seqK_exit, seqK_ret, blockK_ret, loopK_exit, loopK_ret, rs_s_Components, aop_ld, aop_ldn, bodyK_ret, bodyK_normal, resL, resV, Option.map_some, oneV, blockK_exit, seqK_exit, seqK_ret, blockK_ret, loopK_exit, loopK_ret]
    exact ⟨.nil, [], 1, rfl, Own.nil, hE, fun _ _ => trivial, .inr ⟨ok, rfl, rfl⟩⟩
  have : bb = true := hbb.2 ok
  subst this
  obtain ⟨N, hN⟩ : ∃ N : Nat, x.n = N := ⟨x.n.toNat, by have := ok.n; omega⟩
  have hN' : x.n.toNat = N := by omega
  have hgn := hg.n
  rw [hN] at hgn
  have o_n := ok.n
  rw [hN] at o_n
  clear hE0 hE1 hb0 hbb
  simp -implicitDefEqProofs (disch := first | assumption | exact id rfl | omega | (simp only [AHeap.alloc_n, AHeap.put_n, SV.put_n, AHeap.kill_n, ne_eq, List.length_cons, List.length_nil]; omega)) only [SXs, cond_true, cond_false, env0, List.getElem?_cons_zero, List.getElem?_cons_succ, Nat.reduceEqDiff, if_true, if_false, ↓reduceIte, Nat.reduceAdd, Nat.zero_add, Nat.add_zero, Nat.mul_one, reduceCtorEq, Bool.not_true, condK_false, s_Components_8, s_Components_9, s_Components_10, s_Components_11, s_Components_12, s_Components_13, s_Components_14, s_Components_15, s_Components_16, s_Components_17, s_Components_18, s_Components_19, s_Components_20, ldnO_at, hb, ldnC_cells, gv_seg, Option.map_some]
  refine (l5edges_rets (hg.ext hE) ok).mono ?_
  rintro _ G2 hn2 ⟨es_, es, rfl, heo, hes, hE2, heoff⟩
  have heo : EOw G2 es_ es := heo
  have ⟨eok, elen⟩ := edges_ok ok hes
  rw [hN'] at eok
  have rok := rev_ok eok
  have rlen : (es.map E4.rev).length ≤ 6400 := by simpa using elen
  have hE12 := hE.trans hE2
  have hb2 : G2.get H.n = .cells g.cs 28 := by rw [hE2.2 _ (by omega)]; exact hb
  simp -implicitDefEqProofs (disch := first | assumption | exact id rfl | omega | (simp only [AHeap.alloc_n, AHeap.put_n, SV.put_n, AHeap.kill_n, ne_eq, List.length_cons, List.length_nil]; omega)) only [SXs, cond_true, cond_false, env0, List.getElem?_cons_zero, List.getElem?_cons_succ, Nat.reduceEqDiff, if_true, if_false, ↓reduceIte, Nat.reduceAdd, Nat.zero_add, Nat.add_zero, Nat.mul_one, reduceCtorEq, ldnO_at, hb2, ldnC_cells, gv_seg, Option.map_some]
  refine (specReverse_rets (hg.ext hE12) ok hes).mono ?_
  rintro _ G3 hn3 ⟨g', rfl, hy, hE3, hyo⟩
  rw [hN'] at hy
  have x0 : ∀ G : AHeap, extO 0 G (some (.tuple #[g'.v, iv 0])) = some (g'.v, G) := fun G => rfl
  have x1 : ∀ G : AHeap, extO 1 G (some (.tuple #[g'.v, iv 0])) = some (iv 0, G) := fun G => rfl
  have hst : ∀ (G' : AHeap) (b : Nat) (w : GV), stC 5 G' b (.cells [.int .i64 0, .slice none 0 0, .slice none 0 0, .slice none 0 0, .slice none 0 0] 28) 0 (.agg w.cs.toArray) = some (.tuple #[], G'.put b 0 w.cs) := fun G' b w => stC_agg (by simp [GV.cs_len]) (by simp)
  have hR : ∃ R : AHeap, ((G3.alloc (.cells [.int .i64 0, .slice none 0 0, .slice none 0 0, .slice none 0 0, .slice none 0 0] 28)).put G3.n 0 g'.cs) = R ∧ R.n = G3.n + 1 ∧ R.get G3.n = .cells g'.cs 28 ∧ Ext G3 R := by
    refine ⟨_, rfl, by rw [AHeap.put_n]; rfl, ?_, ((Ext.refl G3).allocs _).put (Nat.le_refl _)⟩
    rw [put_at, AHeap.alloc_self]; simp only [putC_cells]; congr 1
  obtain ⟨R, hR0, hRn, hRq, hE3R⟩ := hR
  simp -implicitDefEqProofs (disch := first | assumption | exact id rfl | omega | (simp only [AHeap.alloc_n, AHeap.put_n, SV.put_n, AHeap.kill_n, ne_eq, List.length_cons, List.length_nil]; omega)) only [SXs, cond_true, cond_false, env0, List.getElem?_cons_zero, List.getElem?_cons_succ, Nat.reduceEqDiff, if_true, if_false, ↓reduceIte, Nat.reduceAdd, Nat.zero_add, Nat.add_zero, Nat.mul_one, reduceCtorEq, x0, x1, stO_at, alloc_at, hst, hR0, ldnO_at, hRq, ldnC_cells, gv_seg, Option.map_some]
  refine (l5edges_rets (hy.arr.ext hE3R) (gOf_ok rok ⟨by omega, by omega⟩ rlen)).mono ?_
  rintro _ G4 hn4 ⟨bs_, es2, rfl, hbo, hes2, hE4, hboff⟩
  have := Edges.uniq (gOf_ok rok ⟨by omega, by omega⟩ rlen) hes2 gOf_edges
  subst this
  have hbo : EOw G4 bs_ (rowsE (es.map E4.rev) N) := hbo
  have bok : EsOk (rowsE (es.map E4.rev) N) N := ⟨fun e he => rok.f e (mem_rowsE.1 he).1, fun e he => rok.t e (mem_rowsE.1 he).1, fun e he => rok.d e (mem_rowsE.1 he).1, fun e he => rok.c e (mem_rowsE.1 he).1⟩
  have blen : (rowsE (es.map E4.rev) N).length ≤ 6400 := by rw [rowsE_len rok.f]; exact rlen
  have hE24 := (hE3.trans hE3R).trans hE4
  have hE14 := hE12.trans hE24
  have heo4 := heo.ext hE24
  have hb4 : G4.get H.n = .cells g.cs 28 := by rw [hE24.2 _ (by omega)]; exact hb2
  have hH4 : H.n < G4.n := by omega
  have el1 := enc_len heo4.arr (by omega)
  simp -implicitDefEqProofs (disch := first | assumption | exact id rfl | omega | (simp only [AHeap.alloc_n, AHeap.put_n, SV.put_n, AHeap.kill_n, ne_eq, List.length_cons, List.length_nil]; omega)) only [SXs, cond_true, cond_false, env0, List.getElem?_cons_zero, List.getElem?_cons_succ, Nat.reduceEqDiff, if_true, if_false, ↓reduceIte, Nat.reduceAdd, Nat.zero_add, Nat.add_zero, Nat.mul_one, reduceCtorEq, ldO_at, hb4, ldC_cells, GV.get0, hgn, Option.map_some, mksO_n, zeros]
  have ias : ∀ (j : Nat) (G' : AHeap), j < N → iaO 1 (some (SV.at G4.n 0 N).v) (some (iv j)) G' = some ((SV.at G4.n 0 N).p j, G') := fun j G' hj => by rw [iaO_n (show j < (SV.at G4.n 0 N).len from hj), Nat.mul_one]
  have hox : ∀ b, b < G4.n → (SV.at G4.n 0 N).off b := fun b hb => by simp only [SV.off]; omega
  refine CW_midq (fun e G => ∃ os : List Int, e 1 = some (pt H.n 0) ∧ e 4 = some es_.v ∧ e 7 = some bs_.v ∧ e 8 = some (SV.at G4.n 0 N).v ∧ Ext G4 G ∧ IOwn G (.at G4.n 0 N) os ∧ os.length = N ∧ ∀ u, u < N → os.getD u 0 = -1) ?_ ?_
  · refine CW_inv (fun n e G => ∃ (c : Nat) (os : List Int), n = N - c ∧ c ≤ N ∧ e 1 = some (pt H.n 0) ∧ e 4 = some es_.v ∧ e 7 = some bs_.v ∧ e 8 = some (SV.at G4.n 0 N).v ∧ e 9 = some (iv c) ∧ Ext G4 G ∧ IOwn G (.at G4.n 0 N) os ∧ os.length = N ∧ ∀ u, u < c → os.getD u 0 = -1) N
      ⟨0, List.replicate N 0, by simp, by simp, rfl, rfl, rfl, rfl, rfl, Ext.alloc _ _, Own.new (by simp [ints]), by simp, fun u hu => by omega⟩ ?_
    rintro n e G ⟨c, os, hn, hc, e1, e4, e7, e8, e9, hEG, ho, hol, hmin⟩
    have hbG : G.get H.n = .cells g.cs 28 := by rw [hEG.2 _ hH4]; exact hb4
    simp -implicitDefEqProofs (disch := first | assumption | exact id rfl | omega | (simp only [AHeap.alloc_n, AHeap.put_n, SV.put_n, AHeap.kill_n, ne_eq, List.length_cons, List.length_nil]; omega)) only [s_Components_21, s_Components_22, s_Components_23, s_Components_24, CW_cond, SXs, cond_true, cond_false, env0, List.getElem?_cons_zero, List.getElem?_cons_succ, Nat.reduceEqDiff, if_true, if_false, ↓reduceIte, Nat.reduceAdd, Nat.zero_add, Nat.add_zero, Nat.mul_one, reduceCtorEq, e1, e9, ldO_at, hbG, ldC_cells, GV.get0, hgn, Option.map_some]
    refine condK_of (fun h => ?_) (fun h => ?_) <;> simp only [decide_eq_true_eq, decide_eq_false_iff_not, bne_iff_ne, ne_eq, bne_eq_false_iff_eq, beq_iff_eq, beq_eq_false_iff_ne, Bool.not_eq_true, Bool.not_eq_eq_eq_not, Bool.not_true, Bool.not_false, Classical.not_not, Int.not_lt, Int.not_le] at h
    · have hcN : c < N := by omega
      simp -implicitDefEqProofs (disch := first | assumption | exact id rfl | omega | (simp only [AHeap.alloc_n, AHeap.put_n, SV.put_n, AHeap.kill_n, ne_eq, List.length_cons, List.length_nil]; omega)) only [s_Components_25, s_Components_26, s_Components_27, s_Components_28, SXs, cond_true, cond_false, env0, List.getElem?_cons_zero, List.getElem?_cons_succ, Nat.reduceEqDiff, if_true, if_false, ↓reduceIte, Nat.reduceAdd, Nat.zero_add, Nat.add_zero, Nat.mul_one, reduceCtorEq, e8, e9, ias, iown_st (n := -1) ho (show c < os.length by omega)]
      refine ⟨N - (c + 1), by omega, c + 1, _, rfl, by omega, e1, e4, e7, e8, rfl, hEG.sput hox, iown_put ho (by omega), by simp [hol], fun u hu => ?_⟩
      rw [getD_set (by omega)]
      split
      · rfl
      · exact hmin u (by omega)
    · have hcN : c = N := by omega
      subst hcN
      exact ⟨os, (by first | trivial | assumption), (by first | trivial | assumption), (by first | trivial | assumption), (by first | trivial | assumption), hEG, ho, hol, hmin⟩
  rintro e G hnG ⟨os, e1, e4, e7, e8, hEG, ho, hol, hmin⟩
  have hJ0 : CJ (ER es) N 0 os := fun v hv => .inl ⟨hmin v hv, fun r hr => by omega⟩
  simp -implicitDefEqProofs (disch := first | assumption | exact id rfl | omega | (simp only [AHeap.alloc_n, AHeap.put_n, SV.put_n, AHeap.kill_n, ne_eq, List.length_cons, List.length_nil]; omega)) only [s_Components_29, s_Components_30, s_Components_31, s_Components_32, s_Components_33, SXs, cond_true, cond_false, env0, List.getElem?_cons_zero, List.getElem?_cons_succ, Nat.reduceEqDiff, if_true, if_false, ↓reduceIte, Nat.reduceAdd, Nat.zero_add, Nat.add_zero, Nat.mul_one, reduceCtorEq]
  refine CW_midq (fun e G => ∃ os : List Int, e 8 = some (SV.at G4.n 0 N).v ∧ Ext G4 G ∧ IOwn G (.at G4.n 0 N) os ∧ os.length = N ∧ CJ (ER es) N N os) ?_ ?_
  · refine CW_inv (fun n e G => ∃ (c : Nat) (os : List Int), n = N - c ∧ c ≤ N ∧ e 1 = some (pt H.n 0) ∧ e 4 = some es_.v ∧ e 7 = some bs_.v ∧ e 8 = some (SV.at G4.n 0 N).v ∧ e 10 = some (iv c) ∧ Ext G4 G ∧ IOwn G (.at G4.n 0 N) os ∧ os.length = N ∧ CJ (ER es) N c os) N
      ⟨0, os, by simp, by simp, e1, e4, e7, e8, rfl, hEG, ho, hol, hJ0⟩ ?_
    clear e1 e4 e7 e8 hEG ho hol hmin hJ0
    rintro n e G ⟨c, os, hn, hc, e1, e4, e7, e8, e10, hEG, ho, hol, hJ⟩
    have hbG : G.get H.n = .cells g.cs 28 := by rw [hEG.2 _ hH4]; exact hb4
    simp -implicitDefEqProofs (disch := first | assumption | exact id rfl | omega | (simp only [AHeap.alloc_n, AHeap.put_n, SV.put_n, AHeap.kill_n, ne_eq, List.length_cons, List.length_nil]; omega)) only [s_Components_34, s_Components_35, s_Components_36, s_Components_37, CW_cond, SXs, cond_true, cond_false, env0, List.getElem?_cons_zero, List.getElem?_cons_succ, Nat.reduceEqDiff, if_true, if_false, ↓reduceIte, Nat.reduceAdd, Nat.zero_add, Nat.add_zero, Nat.mul_one, reduceCtorEq, e1, e10, ldO_at, hbG, ldC_cells, GV.get0, hgn, Option.map_some]
    refine condK_of (fun h => ?_) (fun h => ?_) <;> simp only [decide_eq_true_eq, decide_eq_false_iff_not, bne_iff_ne, ne_eq, bne_eq_false_iff_eq, beq_iff_eq, beq_eq_false_iff_ne, Bool.not_eq_true, Bool.not_eq_eq_eq_not, Bool.not_true, Bool.not_false, Classical.not_not, Int.not_lt, Int.not_le] at h
    · have hcN : c < N := by omega
      simp -implicitDefEqProofs (disch := first | assumption | exact id rfl | omega | (simp only [AHeap.alloc_n, AHeap.put_n, SV.put_n, AHeap.kill_n, ne_eq, List.length_cons, List.length_nil]; omega)) only [s_Components_38, s_Components_39, s_Components_40, s_Components_41, s_Components_42, s_Components_43, CW_cond, SXs, cond_true, cond_false, env0, List.getElem?_cons_zero, List.getElem?_cons_succ, Nat.reduceEqDiff, if_true, if_false, ↓reduceIte, Nat.reduceAdd, Nat.zero_add, Nat.add_zero, Nat.mul_one, reduceCtorEq, e8, e10, ias, iarr_ld ho.arr]
      refine condK_of (fun h2 => ?_) (fun h2 => ?_) <;> simp only [decide_eq_true_eq, decide_eq_false_iff_not, bne_iff_ne, ne_eq, bne_eq_false_iff_eq, beq_iff_eq, beq_eq_false_iff_ne, Bool.not_eq_true, Bool.not_eq_eq_eq_not, Bool.not_true, Bool.not_false, Classical.not_not, Int.not_lt, Int.not_le] at h2
      · simp -implicitDefEqProofs (disch := first | assumption | exact id rfl | omega | (simp only [AHeap.alloc_n, AHeap.put_n, SV.put_n, AHeap.kill_n, ne_eq, List.length_cons, List.length_nil]; omega)) only [s_Components_63, SXs, cond_true, cond_false, env0, List.getElem?_cons_zero, List.getElem?_cons_succ, Nat.reduceEqDiff, if_true, if_false, ↓reduceIte, Nat.reduceAdd, Nat.zero_add, Nat.add_zero, Nat.mul_one, reduceCtorEq, e10]
        exact ⟨N - (c + 1), by omega, c + 1, os, rfl, by omega, e1, e4, e7, e8, rfl, hEG, ho, hol, hJ.skip hcN h2⟩
      · have hm1 : IArr (G.alloc (.cells [iv c] 3)) (.at G.n 0 1) [(c : Int)] := (Own.new (cs := ints [(c : Int)]) (by simp [ints])).arr
        have hE5 := hEG.allocs (.cells [iv c] 3)
        have ho5 := ho.alloc (o := .cells [iv c] 3)
        simp -implicitDefEqProofs (disch := first | assumption | exact id rfl | omega | (simp only [AHeap.alloc_n, AHeap.put_n, SV.put_n, AHeap.kill_n, ne_eq, List.length_cons, List.length_nil]; omega)) only [s_Components_44, s_Components_45, s_Components_46, s_Components_47, s_Components_48, s_Components_49, s_Components_50, s_Components_51, SXs, cond_true, cond_false, env0, List.getElem?_cons_zero, List.getElem?_cons_succ, Nat.reduceEqDiff, if_true, if_false, ↓reduceIte, Nat.reduceAdd, Nat.zero_add, Nat.add_zero, Nat.mul_one, reduceCtorEq, e1, e4, e10, ldO_at, hbG, ldC_cells, GV.get0, hgn, Option.map_some, mk_int]
        generalize G.alloc (.cells [iv c] 3) = G5 at *
        refine (l5reach_rets (heo4.ext hE5).arr eok (by omega) elen hm1 hcN).mono ?_
        rintro _ G6 hn6 ⟨o1, b1, rfl, hb1o, hb1l, hE6, hf1, hr1⟩
        have hE46 := hE5.trans hE6
        have hb6 : G6.get H.n = .cells g.cs 28 := by rw [hE46.2 _ hH4]; exact hb4
        have hm2 : IArr (G6.alloc (.cells [iv c] 3)) (.at G6.n 0 1) [(c : Int)] := (Own.new (cs := ints [(c : Int)]) (by simp [ints])).arr
        have hE7 := hE46.allocs (.cells [iv c] 3)
        have ho7 := (ho5.ext hE6).alloc (o := .cells [iv c] 3)
        have hb17 := hb1o.alloc (o := .cells [iv c] 3)
        simp -implicitDefEqProofs (disch := first | assumption | exact id rfl | omega | (simp only [AHeap.alloc_n, AHeap.put_n, SV.put_n, AHeap.kill_n, ne_eq, List.length_cons, List.length_nil]; omega)) only [SXs, cond_true, cond_false, env0, List.getElem?_cons_zero, List.getElem?_cons_succ, Nat.reduceEqDiff, if_true, if_false, ↓reduceIte, Nat.reduceAdd, Nat.zero_add, Nat.add_zero, Nat.mul_one, reduceCtorEq, e1, e7, e10, ldO_at, hb6, ldC_cells, GV.get0, hgn, Option.map_some, mk_int]
        generalize G6.alloc (.cells [iv c] 3) = G7 at *
        refine (l5reach_rets (hbo.ext hE7).arr bok (by omega) blen hm2 hcN).mono ?_
        rintro _ G8 hn8 ⟨o2, b2, rfl, hb2o, hb2l, hE8, hf2, hr2⟩
        have hE48 := hE7.trans hE8
        have ho8 := ho7.ext hE8
        have hb18 := hb17.ext hE8
        have ol1 := bown_len hb18
        have ol2 := bown_len hb2o
        have hboth : ∀ v, v < N → (Both (ER es) v c ↔ b1.getD v false = true ∧ b2.getD v false = true) := fun v hv => by
          rw [hr1 v hv, hr2 v hv, Rch_back eok]
          exact ⟨fun h => ⟨h.2, h.1⟩, fun h => ⟨h.2, h.1⟩⟩
        have a1 : (SV.at G4.n 0 N).apart o1 := fun b => by
          by_cases hb : G4.n = b
          · right; subst hb; exact hf1 _ (by have := hEG.1; have := ho5.lt; exact this)
          · left; exact hb
        have a2 : (SV.at G4.n 0 N).apart o2 := fun b => by
          by_cases hb : G4.n = b
          · right; subst hb; exact hf2 _ (by have := ho7.lt; exact this)
          · left; exact hb
        clear ho ho5 ho7 hb1o hb17 hE5 hE6 hE7 hE8 hm1 hm2 hb6 hbG hE46 hEG
        refine CW_midq (fun e G => ∃ os' : List Int, e 1 = some (pt H.n 0) ∧ e 4 = some es_.v ∧ e 7 = some bs_.v ∧ e 8 = some (SV.at G4.n 0 N).v ∧ e 10 = some (iv c) ∧ Ext G4 G ∧ IOwn G (.at G4.n 0 N) os' ∧ os'.length = N ∧ ∀ v, v < N → (Both (ER es) v c → os'.getD v 0 = c) ∧ (¬ Both (ER es) v c → os'.getD v 0 = os.getD v 0)) ?_ ?_
        · refine CW_inv (fun n e G => ∃ (v : Nat) (os' : List Int), n = N - v ∧ v ≤ N ∧ e 1 = some (pt H.n 0) ∧ e 4 = some es_.v ∧ e 7 = some bs_.v ∧ e 8 = some (SV.at G4.n 0 N).v ∧ e 10 = some (iv c) ∧ e 11 = some o1.v ∧ e 12 = some o2.v ∧ e 13 = some (iv v) ∧ Ext G4 G ∧ IOwn G (.at G4.n 0 N) os' ∧ BOwn G o1 b1 ∧ BOwn G o2 b2 ∧ os'.length = N ∧ ∀ u, u < N → (u < v → Both (ER es) u c → os'.getD u 0 = c) ∧ ((v ≤ u ∨ ¬ Both (ER es) u c) → os'.getD u 0 = os.getD u 0)) N
            ⟨0, os, by simp, by simp, e1, e4, e7, e8, e10, rfl, rfl, rfl, hE48, ho8, hb18, hb2o, hol, fun u hu => ⟨fun h => by omega, fun _ => rfl⟩⟩ ?_
          clear e1 e4 e7 e8 e10 hE48 ho8 hb18 hb2o
          rintro m e G ⟨v, os', hm, hv, e1, e4, e7, e8, e10, e11, e12, e13, hEG, ho, hb1o, hb2o, hol', hJ'⟩
          have hbG : G.get H.n = .cells g.cs 28 := by rw [hEG.2 _ hH4]; exact hb4
          simp -implicitDefEqProofs (disch := first | assumption | exact id rfl | omega | (simp only [AHeap.alloc_n, AHeap.put_n, SV.put_n, AHeap.kill_n, ne_eq, List.length_cons, List.length_nil]; omega)) only [s_Components_52, s_Components_53, s_Components_54, s_Components_55, CW_cond, SXs, cond_true, cond_false, env0, List.getElem?_cons_zero, List.getElem?_cons_succ, Nat.reduceEqDiff, if_true, if_false, ↓reduceIte, Nat.reduceAdd, Nat.zero_add, Nat.add_zero, Nat.mul_one, reduceCtorEq, e1, e13, ldO_at, hbG, ldC_cells, GV.get0, hgn, Option.map_some]
          refine condK_of (fun h3 => ?_) (fun h3 => ?_) <;> simp only [decide_eq_true_eq, decide_eq_false_iff_not, bne_iff_ne, ne_eq, bne_eq_false_iff_eq, beq_iff_eq, beq_eq_false_iff_ne, Bool.not_eq_true, Bool.not_eq_eq_eq_not, Bool.not_true, Bool.not_false, Classical.not_not, Int.not_lt, Int.not_le] at h3
          · have hvN : v < N := by omega
            have no : ¬ Both (ER es) v c → ∀ u, u < N → (u < v + 1 → Both (ER es) u c → os'.getD u 0 = c) ∧ ((v + 1 ≤ u ∨ ¬ Both (ER es) u c) → os'.getD u 0 = os.getD u 0) := fun hnb u hu => by
              refine ⟨fun h4 hb => ?_, fun h4 => (hJ' u hu).2 (h4.imp (fun h => by omega) id)⟩
              by_cases huv : u = v
              · subst huv; exact absurd hb hnb
              · exact (hJ' u hu).1 (by omega) hb
            simp -implicitDefEqProofs (disch := first | assumption | exact id rfl | omega | (simp only [AHeap.alloc_n, AHeap.put_n, SV.put_n, AHeap.kill_n, ne_eq, List.length_cons, List.length_nil]; omega)) only [s_Components_56, s_Components_57, s_Components_58, s_Components_59, s_Components_60, CW_cond, SXs, cond_true, cond_false, env0, List.getElem?_cons_zero, List.getElem?_cons_succ, Nat.reduceEqDiff, if_true, if_false, ↓reduceIte, Nat.reduceAdd, Nat.zero_add, Nat.add_zero, Nat.mul_one, reduceCtorEq, e11, e12, e13, bown_ld hb1o]
            refine bool_split (fun h4 => ?_) (fun h4 => ?_)
            · simp -implicitDefEqProofs (disch := first | assumption | exact id rfl | omega | (simp only [AHeap.alloc_n, AHeap.put_n, SV.put_n, AHeap.kill_n, ne_eq, List.length_cons, List.length_nil]; omega)) only [s_Components_59, s_Components_60, CW_cond, s_Components_60, CW_cond, SXs, cond_true, cond_false, env0, List.getElem?_cons_zero, List.getElem?_cons_succ, Nat.reduceEqDiff, if_true, if_false, ↓reduceIte, Nat.reduceAdd, Nat.zero_add, Nat.add_zero, Nat.mul_one, reduceCtorEq, e11, e12, e13, bown_ld hb2o]
              refine condK_of (fun h5 => ?_) (fun h5 => ?_)
              · have hbv : Both (ER es) v c := (hboth v hvN).2 ⟨h4, h5⟩
                simp -implicitDefEqProofs (disch := first | assumption | exact id rfl | omega | (simp only [AHeap.alloc_n, AHeap.put_n, SV.put_n, AHeap.kill_n, ne_eq, List.length_cons, List.length_nil]; omega)) only [s_Components_61, s_Components_62, SXs, cond_true, cond_false, env0, List.getElem?_cons_zero, List.getElem?_cons_succ, Nat.reduceEqDiff, if_true, if_false, ↓reduceIte, Nat.reduceAdd, Nat.zero_add, Nat.add_zero, Nat.mul_one, reduceCtorEq, e8, e10, e13, ias, iown_st (n := (c : Int)) ho (show v < os'.length by omega)]
                refine ⟨N - (v + 1), by omega, v + 1, _, rfl, by omega, e1, e4, e7, e8, e10, e11, e12, rfl, hEG.sput hox, iown_put ho (by omega), hb1o.sput a1, hb2o.sput a2, by simp [hol'], fun u hu => ?_⟩
                rw [getD_set (by omega)]
                by_cases huv : v = u
                · subst huv
                  rw [if_pos rfl]
                  exact ⟨fun _ _ => rfl, fun h6 => by rcases h6 with h6 | h6; · omega
                                                      · exact absurd hbv h6⟩
                · rw [if_neg huv]
                  exact ⟨fun h6 hb => (hJ' u hu).1 (by omega) hb, fun h6 => (hJ' u hu).2 (h6.imp (fun h => by omega) id)⟩
              · simp -implicitDefEqProofs (disch := first | assumption | exact id rfl | omega | (simp only [AHeap.alloc_n, AHeap.put_n, SV.put_n, AHeap.kill_n, ne_eq, List.length_cons, List.length_nil]; omega)) only [s_Components_62, SXs, cond_true, cond_false, env0, List.getElem?_cons_zero, List.getElem?_cons_succ, Nat.reduceEqDiff, if_true, if_false, ↓reduceIte, Nat.reduceAdd, Nat.zero_add, Nat.add_zero, Nat.mul_one, reduceCtorEq, e13]
                exact ⟨N - (v + 1), by omega, v + 1, os', rfl, by omega, e1, e4, e7, e8, e10, e11, e12, rfl, hEG, ho, hb1o, hb2o, hol', no fun hb => by rw [((hboth v hvN).1 hb).2] at h5; cases h5⟩
            · simp -implicitDefEqProofs (disch := first | assumption | exact id rfl | omega | (simp only [AHeap.alloc_n, AHeap.put_n, SV.put_n, AHeap.kill_n, ne_eq, List.length_cons, List.length_nil]; omega)) only [s_Components_59, s_Components_60, CW_cond, s_Components_60, CW_cond, s_Components_62, SXs, cond_true, cond_false, env0, List.getElem?_cons_zero, List.getElem?_cons_succ, Nat.reduceEqDiff, if_true, if_false, ↓reduceIte, Nat.reduceAdd, Nat.zero_add, Nat.add_zero, Nat.mul_one, reduceCtorEq, condK_false, e13]
              exact ⟨N - (v + 1), by omega, v + 1, os', rfl, by omega, e1, e4, e7, e8, e10, e11, e12, rfl, hEG, ho, hb1o, hb2o, hol', no fun hb => by rw [((hboth v hvN).1 hb).1] at h4; cases h4⟩
          · have hvN : v = N := by omega
            exact ⟨os', (by first | trivial | assumption), (by first | trivial | assumption), (by first | trivial | assumption), (by first | trivial | assumption), (by first | trivial | assumption), hEG, ho, hol', fun u hu => ⟨(hJ' u hu).1 (by omega), fun h6 => (hJ' u hu).2 (.inr h6)⟩⟩
        · clear e1 e4 e7 e8 e10 hE48 ho8 hb18 hb2o
          rintro e G hn' ⟨os', e1, e4, e7, e8, e10, hEG, ho, hol', hJ'⟩
          simp -implicitDefEqProofs (disch := first | assumption | exact id rfl | omega | (simp only [AHeap.alloc_n, AHeap.put_n, SV.put_n, AHeap.kill_n, ne_eq, List.length_cons, List.length_nil]; omega)) only [s_Components_63, SXs, cond_true, cond_false, env0, List.getElem?_cons_zero, List.getElem?_cons_succ, Nat.reduceEqDiff, if_true, if_false, ↓reduceIte, Nat.reduceAdd, Nat.zero_add, Nat.add_zero, Nat.mul_one, reduceCtorEq, e10]
          exact ⟨N - (c + 1), by omega, c + 1, os', rfl, by omega, e1, e4, e7, e8, rfl, hEG, ho, hol', hJ.step hcN h2 hJ'⟩
    · have hcN : c = N := by omega
      rw [hcN] at hJ
      exact ⟨os, (by first | trivial | assumption), hEG, ho, hol, hJ⟩
  · clear e1 e4 e7 e8 hEG ho hol hmin hJ0
    rintro e G hn ⟨os, e8, hEG, ho, hol, hJ⟩
    simp -implicitDefEqProofs (disch := first | assumption | exact id rfl | omega | (simp only [AHeap.alloc_n, AHeap.put_n, SV.put_n, AHeap.kill_n, ne_eq, List.length_cons, List.length_nil]; omega)) only [s_Components_64, s_Components_65, aop_ld, aop_ldn, bodyK_ret, bodyK_normal, resL, resV, Option.map_some, oneV, blockK_exit, seqK_exit, seqK_ret, blockK_ret, loopK_exit, loopK_ret, rs_s_Components, SXs, cond_true, cond_false, env0, List.getElem?_cons_zero, List.getElem?_cons_succ, Nat.reduceEqDiff, if_true, if_false, ↓reduceIte, Nat.reduceAdd, Nat.zero_add, Nat.add_zero, Nat.mul_one, reduceCtorEq, aop_ld, aop_ldn, bodyK_ret, bodyK_normal, resL, resV, Option.map_some, oneV, blockK_exit, seqK_exit, seqK_ret, blockK_ret, loopK_exit, loopK_ret, e8]
    refine ⟨_, os, 0, rfl, ho, hE14.trans hEG, fun k hk => hox k (by have := hE14.1; omega), .inl ⟨ok, rfl, es, hes, ?_⟩⟩
    rw [hN']
    refine ⟨hol, fun v hv => ?_⟩
    rcases hJ v hv with ⟨-, h2⟩ | ⟨-, -, h3⟩
    · exact absurd (Both.refl v) (h2 v hv)
    · exact h3
end Go.AB
