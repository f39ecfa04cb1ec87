/- The edges turned around, as the implementation does it. -/
import Derived.Test.YtnbamdhmhnhneaaB20
import Derived.Test.YtnbamdhmhnhneaaT6
import Derived.Test.YtnbamdhmhnhneaaL2
set_option linter.unusedVariables false
set_option linter.unusedSimpArgs false
set_option maxRecDepth 10000
namespace Go.AB
open Go.Proofs
variable {w0 : World} {H : AHeap}

/-! ### The indexes of the edges into a cell -/
def idxE (es : List E4) (v i : Nat) : List Int :=
  ((List.range i).filter fun k : Nat => match es[k]? with
    | some e => e.t == (v : Int)
    | none => false).map (fun k : Nat => (k : Int))
theorem idxE_zero {es : List E4} {v : Nat} : idxE es v 0 = [] := rfl
theorem idxE_succ {es : List E4} {v i : Nat} {e : E4} (he : es[i]? = some e) : idxE es v (i + 1) = idxE es v i ++ if e.t = v then [(i : Int)] else [] := by
  simp only [idxE, List.range_succ, List.filter_append, List.map_append]
  congr 1
  simp only [List.filter_cons, he, beq_iff_eq, List.filter_nil]
  split <;> simp
theorem idxE_row {es : List E4} {v : Nat} : ∀ {i : Nat}, i ≤ es.length → (idxE es v i).length = (rowE ((es.take i).map E4.rev) v).length ∧
    ∀ (j : Nat) (k : Int), (idxE es v i)[j]? = some k → ∃ (k' : Nat) (e : E4), k = k' ∧ es[k']? = some e ∧ (rowE ((es.take i).map E4.rev) v)[j]? = some e.rev
  | 0, h => ⟨by simp [idxE_zero, rowE], fun j k hk => by simp [idxE_zero] at hk⟩
  | i + 1, h => by
    obtain ⟨ih1, ih2⟩ := idxE_row (es := es) (v := v) (i := i) (by omega)
    have he : es[i]? = some es[i] := List.getElem?_eq_getElem (by omega)
    have hrow : rowE ((es.take (i + 1)).map E4.rev) v = rowE ((es.take i).map E4.rev) v ++ if es[i].t = v then [es[i].rev] else [] := by
      rw [List.take_add_one, he]
      simp only [Option.toList_some, List.map_append, List.map_cons, List.map_nil, rowE, List.filter_append]
      congr 1
      simp only [List.filter_cons, List.filter_nil, E4.rev, beq_iff_eq]
    rw [idxE_succ he, hrow]
    by_cases hv : es[i].t = v
    · simp only [if_pos hv]
      refine ⟨by simp [ih1], fun j k hk => ?_⟩
      by_cases hj : j < (idxE es v i).length
      · rw [List.getElem?_append_left hj] at hk
        obtain ⟨k', e, h1, h2, h3⟩ := ih2 j k hk
        exact ⟨k', e, h1, h2, by rw [List.getElem?_append_left (by omega)]; exact h3⟩
      · rw [List.getElem?_append_right (by omega)] at hk
        have hj0 : j - (idxE es v i).length = 0 := by
          have := (List.getElem?_eq_some_iff.1 hk).1; simp at this; omega
        rw [hj0] at hk; simp at hk
        exact ⟨i, es[i], hk.symm, he, by rw [List.getElem?_append_right (by omega), show j - (rowE ((es.take i).map E4.rev) v).length = 0 by omega]; rfl⟩
    · simp only [if_neg hv, List.append_nil]
      exact ⟨ih1, ih2⟩
/-- A part of a graph. -/
def pG (N sc : Nat) (es L : List E4) : GD := ⟨N, (List.range sc).map (fun v => ((rowsE es v).length : Int)), L.map (·.t), L.map (·.d), L.map (·.c)⟩
theorem pG_size {N sc : Nat} {es L : List E4} : (pG N sc es L).size = sc + L.length + L.length + L.length := by simp [pG, GD.size]
theorem GOwn.put' {b off : Nat} {vs : List Value} {gv : GV} {x : GD} (h : GOwn H gv x) (hb : gv.off b) : GOwn (H.put b off vs) gv x :=
  ⟨h.n, h.s.put' hb.1, h.t.put' hb.2.1, h.d.put' hb.2.2.1, h.c.put' hb.2.2.2, h.st, h.sd, h.sc, h.td, h.tc, h.dc⟩
theorem nils {n : Nat} : (List.replicate n [Value.slice none 0 0]).flatten = ESV.all (List.replicate n SV.nil) := by
  induction n with
  | zero => rfl
  | succ n ih => rw [List.replicate_succ, List.flatten_cons, ih, List.replicate_succ, Enc.all_cons]; rfl
theorem zeros {n : Nat} : (List.replicate n [Value.int .i64 0]).flatten = ints (List.replicate n 0) := by simp [ints, List.map_replicate]
theorem build_graph {n : Int} : buildO [.int .i64 0, .slice none 0 0, .slice none 0 0, .slice none 0 0, .slice none 0 0] [(0, 1), (1, 1), (2, 1), (3, 1), (4, 1)] (some [(0, iv n)]) H = some (.agg (GV.mk n .nil .nil .nil .nil).cs.toArray, H) := rfl

theorem apart_of_off {s : SV} {m o n : Nat} (h : s.off m) : s.apart (.at m o n) := fun b => by
  by_cases hb : m = b
  · subst hb; exact .inl h
  · exact .inr hb
/-- What the first loop has made behind i edges: the rows at m, the cells they come from at m + 1. -/
structure Into1 (G1 : AHeap) (m N M : Nat) (es : List E4) (i : Nat) (G : AHeap) (svs : List SV) (fr : List Int) : Prop where
  ext : Ext G1 G
  n : m + 2 ≤ G.n
  le : i ≤ M
  rows : Own G (.at m 0 N) 22 1 (ESV.all svs)
  rl : svs.length = N
  fro : IOwn G (.at (m + 1) 0 M) fr
  fl : fr.length = M
  fe : ∀ (k : Nat) (e : E4), k < i → es[k]? = some e → fr.getD k 0 = e.f
  row : ∀ (v : Nat) (sv : SV), svs[v]? = some sv → IOwn G sv (idxE es v i) ∧ ∀ c, c < m + 2 → sv.off c
  ap : ∀ (u v : Nat) (a b : SV), u ≠ v → svs[u]? = some a → svs[v]? = some b → a.apart b
theorem Into1.step {G1 G : AHeap} {m N M i u : Nat} {es : List E4} {svs : List SV} {fr : List Int} {e : E4} {sv : SV} (h : Into1 G1 m N M es i G svs fr) (hm : G1.n = m) (he : es[i]? = some e) (hu : e.t = u) (hsv : svs[u]? = some sv) (hi : i < M) :
    Into1 G1 m N M es (i + 1) ((SV.at (m + 1) 0 M).put ((SV.at m 0 N).put (G.app1 sv 3 (ints (idxE es u i)) [iv i]) u [(SV.at (G.n + 1) 0 (sv.len + 1)).v]) i [iv e.f]) (svs.set u (.at (G.n + 1) 0 (sv.len + 1))) (fr.set i e.f) := by
  obtain ⟨hio, hoffs⟩ := h.row u sv hsv
  have hul : u < svs.length := (List.getElem?_eq_some_iff.1 hsv).1
  have hn := h.n
  have am : sv.apart (.at m 0 N) := apart_of_off (hoffs m (by omega))
  have af : sv.apart (.at (m + 1) 0 M) := apart_of_off (hoffs (m + 1) (by omega))
  have mf : (SV.at m 0 N).apart (.at (m + 1) 0 M) := apart_of_off (by simp only [SV.off]; omega)
  have h1 := h.rows.app1 (ds := [iv i]) (cs := ints (idxE es u i)) (ty := 3) am
  have h2 := put_sv (a := .at (G.n + 1) 0 (sv.len + 1)) h1 (j := u) hul
  have h3 := h2.sput (j := i) (vs := [iv e.f]) mf.symm
  have f1 := h.fro.app1 (ds := [iv i]) (cs := ints (idxE es u i)) (ty := 3) af
  have f2 := f1.sput (j := u) (vs := [(SV.at (G.n + 1) 0 (sv.len + 1)).v]) mf
  have f3 := iown_put (n := e.f) f2 (j := i) (by rw [h.fl]; exact hi)
  have r1 := app1_own (ds := [iv i]) hio rfl
  rw [show [iv (i : Int)] = ints [(i : Int)] from rfl, ints_app] at r1
  have r2 : IOwn ((SV.at m 0 N).put (G.app1 sv 3 (ints (idxE es u i)) [iv i]) u [(SV.at (G.n + 1) 0 (sv.len + 1)).v]) (.at (G.n + 1) 0 (sv.len + 1)) (idxE es u i ++ [(i : Int)]) := r1.sput (apart_of_off (by simp only [SV.off]; omega))
  have r3 : IOwn ((SV.at (m + 1) 0 M).put ((SV.at m 0 N).put (G.app1 sv 3 (ints (idxE es u i)) [iv i]) u [(SV.at (G.n + 1) 0 (sv.len + 1)).v]) i [iv e.f]) (.at (G.n + 1) 0 (sv.len + 1)) (idxE es u i ++ [(i : Int)]) := r2.sput (apart_of_off (by simp only [SV.off]; omega))
  refine ⟨?_, ?_, by omega, h3, by simp [h.rl], f3, by simp [h.fl], fun k e' hk he' => ?_, fun v sv' hv => ?_, fun v1 v2 a b hne ha hb => ?_⟩
  · exact ((h.ext.app1 (fun b hb => hoffs b (by omega))).sput (fun b hb => by simp only [SV.off]; omega)).sput (fun b hb => by simp only [SV.off]; omega)
  · rw [SV.put_n, SV.put_n, app1_n]; omega
  · rw [getD_set (by rw [h.fl]; exact hi)]
    split
    · subst_vars; rw [he] at he'; cases he'; rfl
    · exact h.fe k e' (by omega) he'
  · rw [List.getElem?_set] at hv
    split at hv
    · rename_i huv
      subst huv
      cases hv
      refine ⟨?_, fun c hc => by simp only [SV.off]; omega⟩
      rw [idxE_succ he, if_pos hu]
      exact r3
    · rename_i huv
      obtain ⟨q1, q2⟩ := h.row v sv' hv
      refine ⟨?_, q2⟩
      rw [idxE_succ he, if_neg (by rw [hu]; omega), List.append_nil]
      exact ((q1.app1 (h.ap u v sv sv' huv hsv hv)).sput (apart_of_off (q2 m (by omega))).symm).sput (apart_of_off (q2 (m + 1) (by omega))).symm
  · rw [List.getElem?_set] at ha hb
    split at ha
    · rename_i h1
      subst h1
      cases ha
      rw [if_neg hne] at hb
      exact apart_new (h.row v2 b hb).1.lt (by omega)
    · split at hb
      · rename_i h2
        subst h2
        cases hb
        exact (apart_new (h.row v1 a ha).1.lt (by omega)).symm
      · exact h.ap v1 v2 a b hne ha hb

/-- The graph that grows in the variable at q. -/
structure OutG (q : Nat) (F : AHeap) (gv : GV) (y : GD) : Prop where
  at' : F.get q = .cells gv.cs 28
  own : GOwn F gv y
  off : ∀ c, c ≤ q → gv.off c
theorem gv_st {gv : GV} {G : AHeap} {b j : Nat} {s : SV} (hj : j < 5) : stC 1 G b (.cells gv.cs 28) j s.v = some (.tuple #[], G.put b j [s.v]) := stC_s hj
theorem gv_seg {gv : GV} : seg gv.cs 0 5 = some gv.cs := rfl
theorem gv_stn {gv gw : GV} {G : AHeap} {b : Nat} : stC 5 G b (.cells gv.cs 28) 0 (.agg gw.cs.toArray) = some (.tuple #[], G.put b 0 gw.cs) := stC_agg (by simp [GV.cs_len]) (by simp [GV.cs_len])
theorem gv_spl {gv gw : GV} : splice gv.cs 0 gw.cs = gw.cs := splice_all (by simp [GV.cs_len])
theorem pG_s {N v : Nat} {er L : List E4} : ({ pG N v er L with s := (pG N v er L).s ++ [((rowsE er v).length : Int)] } : GD) = pG N (v + 1) er L := by simp [pG, List.range_succ]
theorem OutG.start {q v N : Nat} {F : AHeap} {gv : GV} {er : List E4} {L : List E4} (h : OutG q F gv (pG N v er L)) (hL : L.length = (rowsE er v).length) (hq : q < F.n) :
    (F.upd q 1 gv.s 3 (ints (pG N v er L).s) [iv gv.t.len]).n = F.n + 2 ∧ (∀ k, k < q → (F.upd q 1 gv.s 3 (ints (pG N v er L).s) [iv gv.t.len]).get k = F.get k) ∧
    ∃ gv', OutG q (F.upd q 1 gv.s 3 (ints (pG N v er L).s) [iv gv.t.len]) gv' (pG N (v + 1) er L) := by
  have hl : gv.t.len = (rowsE er v).length := by rw [iarr_len h.own.t.arr, ← hL]; simp [pG]
  obtain ⟨h1, h2, h3, h4⟩ := GOwn.add_s (n := (gv.t.len : Int)) h.at' h.own (h.off q (Nat.le_refl _))
  refine ⟨upd_n, fun k hk => (h4 k (by omega) (by omega) (h.off k (by omega))).1, _, h1, ?_, fun c hc => ?_⟩
  · rw [← pG_s, ← hl]; exact h2
  · by_cases hcq : c = q
    · subst hcq; exact h3
    · exact (h4 c (by omega) hcq (h.off c hc)).2
theorem pG_add {N j : Nat} {er R : List E4} {e : E4} (h : R[j]? = some e) {sc : Nat} {L : List E4} :
    (⟨(pG N sc er (L ++ R.take j)).n, (pG N sc er (L ++ R.take j)).s, (pG N sc er (L ++ R.take j)).t ++ [e.t], (pG N sc er (L ++ R.take j)).d ++ [e.d], (pG N sc er (L ++ R.take j)).c ++ [e.c]⟩ : GD) = pG N sc er (L ++ R.take (j + 1)) := by
  rw [List.take_add_one, h]
  simp [pG]

theorem implReverse_rets {g : GV} {x : GD} {es : List E4} (hg : GArr H g x) (ok : x.Ok) (hes : x.Edges es) : Rets Go.Proofs.Try.prog w0 21 [g.v] H fun v H' => ∃ g' : GV, v = .tuple #[g'.v, iv 0] ∧ GOwn H' g' (gOf x.n.toNat (es.map E4.rev)) ∧ Ext H H' ∧ ∀ b, b < H.n → g'.off b := by
  obtain ⟨N, hN⟩ : ∃ N : Nat, x.n = N := ⟨x.n.toNat, by have := ok.n; omega⟩
  have hN' : x.n.toNat = N := by omega
  have ⟨eok, elen⟩ := edges_ok ok hes
  have o_n := ok.n
  have o_s := ok.s
  have o_s0 := ok.s0
  have o_m := ok.m
  have o_t := ok.t
  have o_d := ok.d
  have o_c := ok.c
  rw [hN'] at o_m o_t o_d o_c eok ⊢
  rw [hN] at o_n o_s
  have hel := hes.len
  generalize hM : x.t.length = M at *
  have hE0 : Ext H ((H.alloc (.cells g.cs 28)).alloc (.cells [.int .i64 0, .slice none 0 0, .slice none 0 0, .slice none 0 0, .slice none 0 0] 28)) := ((Ext.refl H).allocs _).allocs _
  have hb0 : ((H.alloc (.cells g.cs 28)).alloc (.cells [.int .i64 0, .slice none 0 0, .slice none 0 0, .slice none 0 0, .slice none 0 0] 28)).get H.n = .cells g.cs 28 := by simp -implicitDefEqProofs (disch := first | assumption | exact id rfl | omega | (simp only [AHeap.alloc_n, AHeap.put_n, SV.put_n, AHeap.kill_n, ne_eq, List.length_cons, List.length_nil]; omega)) only [HXs, Option.map_some, List.length_cons, List.length_nil, List.take_succ_cons, List.take_zero, List.drop_succ_cons, List.drop_zero, List.cons_append, List.nil_append]
  have hr0 : ((H.alloc (.cells g.cs 28)).alloc (.cells [.int .i64 0, .slice none 0 0, .slice none 0 0, .slice none 0 0, .slice none 0 0] 28)).get (H.n + 1) = .cells (GV.mk 0 .nil .nil .nil .nil).cs 28 := by simp -implicitDefEqProofs (disch := first | assumption | exact id rfl | omega | (simp only [AHeap.alloc_n, AHeap.put_n, SV.put_n, AHeap.kill_n, ne_eq, List.length_cons, List.length_nil]; omega)) only [HXs, Option.map_some, List.length_cons, List.length_nil, List.take_succ_cons, List.take_zero, List.drop_succ_cons, List.drop_zero, List.cons_append, List.nil_append]; rfl
  have hn0 : ((H.alloc (.cells g.cs 28)).alloc (.cells [.int .i64 0, .slice none 0 0, .slice none 0 0, .slice none 0 0, .slice none 0 0] 28)).n = H.n + 2 := rfl
  refine rets_fun rfl cf_i_Reverse (body_of ?_)
  simp -implicitDefEqProofs (disch := first | assumption | exact id rfl | omega | (simp only [AHeap.alloc_n, AHeap.put_n, SV.put_n, AHeap.kill_n, ne_eq, List.length_cons, List.length_nil]; omega)) only [i_Reverse_0, i_Reverse_1, SXs, cond_true, cond_false, env0, List.getElem?_cons_zero, List.getElem?_cons_succ, Nat.reduceEqDiff, if_true, if_false, ↓reduceIte, Nat.reduceAdd, Nat.zero_add, Nat.add_zero, Nat.mul_one, reduceCtorEq, boxO_agg, AHeap.alloc_n]
  generalize (H.alloc (.cells g.cs 28)).alloc (.cells [.int .i64 0, .slice none 0 0, .slice none 0 0, .slice none 0 0, .slice none 0 0] 28) = G0 at *
  simp -implicitDefEqProofs (disch := first | assumption | exact id rfl | omega | (simp only [AHeap.alloc_n, AHeap.put_n, SV.put_n, AHeap.kill_n, ne_eq, List.length_cons, List.length_nil]; omega)) only [i_Reverse_2, i_Reverse_3, i_Reverse_4, i_Reverse_5, CW_cond, SXs, cond_true, cond_false, env0, List.getElem?_cons_zero, List.getElem?_cons_succ, Nat.reduceEqDiff, if_true, if_false, ↓reduceIte, Nat.reduceAdd, Nat.zero_add, Nat.add_zero, Nat.mul_one, reduceCtorEq, ldnO_at, hb0, ldnC_cells, seg_all, GV.cs_len, Option.map_some]
  refine (implValidGraph_rets (hg.ext hE0) (by unfold GD.size; omega)).mono ?_
  rintro _ G1 hn1 ⟨⟨bb, rfl, hbb⟩, hE1⟩
  have hbt : bb = true := hbb.2 ok
  subst hbt
  have hE := hE0.trans hE1
  have hb : G1.get H.n = .cells g.cs 28 := by rw [hE1.2 _ (by omega)]; exact hb0
  have hr : G1.get (H.n + 1) = .cells (GV.mk 0 .nil .nil .nil .nil).cs 28 := by rw [hE1.2 _ (by omega)]; exact hr0
  rw [hn0] at hn1
  clear hE0 hE1 hb0 hr0 hbb hn0
  have hgn := hg.n
  rw [hN] at hgn
  have lt0 := iarr_len hg.t
  rw [hM] at lt0
  simp -implicitDefEqProofs (disch := first | assumption | exact id rfl | omega | (simp only [AHeap.alloc_n, AHeap.put_n, SV.put_n, AHeap.kill_n, ne_eq, List.length_cons, List.length_nil]; omega)) only [i_Reverse_5, CW_cond, i_Reverse_8, i_Reverse_9, i_Reverse_10, i_Reverse_11, i_Reverse_12, i_Reverse_13, i_Reverse_14, i_Reverse_15, i_Reverse_16, SXs, cond_true, cond_false, env0, List.getElem?_cons_zero, List.getElem?_cons_succ, Nat.reduceEqDiff, if_true, if_false, ↓reduceIte, Nat.reduceAdd, Nat.zero_add, Nat.add_zero, Nat.mul_one, reduceCtorEq, Bool.not_true, condK_false, ldO_at, hb, ldC_cells, AHeap.alloc_ne, AHeap.alloc_n, GV.get0, GV.get2, hgn, Option.map_some, mksO_n, nils, zeros]
  rw [lt0]
  refine CW_inv (fun n e G => ∃ (c i : Nat) (svs : List SV) (fr : List Int), n = N - c ∧ c ≤ N ∧ x.s.getD c 0 = i ∧ e 1 = some (pt H.n 0) ∧ e 2 = some (pt (H.n + 1) 0) ∧ e 4 = some (SV.at G1.n 0 N).v ∧ e 5 = some (SV.at (G1.n + 1) 0 M).v ∧ e 25 = some (iv N) ∧ e 26 = some (iv c) ∧ Into1 G1 G1.n N M es i G svs fr) N
    ⟨0, 0, List.replicate N .nil, List.replicate M 0, by simp, by simp, o_s0, rfl, rfl, rfl, rfl, rfl, rfl, ?_⟩ ?_
  · refine ⟨((Ext.refl G1).allocs _).allocs _, by simp, by omega, ?_, by simp, Own.new (by simp [ints]), by simp, fun k e hk => by omega, fun v sv hv => ?_, fun u v a b huv ha hb => ?_⟩
    · exact (Own.new (by rw [Enc.all_len]; simp)).alloc
    · have : sv = .nil := by rw [List.getElem?_replicate] at hv; split at hv <;> cases hv; rfl
      subst this
      exact ⟨Own.nil, fun c _ => trivial⟩
    · have : a = .nil := by rw [List.getElem?_replicate] at ha; split at ha <;> cases ha; rfl
      subst this
      exact fun c => .inl trivial
  rintro n e G ⟨c, i, svs, fr, hn, hc, hsi, e1, e2, e4, e5, e25, e26, hI⟩
  simp -implicitDefEqProofs (disch := first | assumption | exact id rfl | omega | (simp only [AHeap.alloc_n, AHeap.put_n, SV.put_n, AHeap.kill_n, ne_eq, List.length_cons, List.length_nil]; omega)) only [i_Reverse_17, i_Reverse_18, i_Reverse_19, i_Reverse_20, CW_cond, SXs, cond_true, cond_false, env0, List.getElem?_cons_zero, List.getElem?_cons_succ, Nat.reduceEqDiff, if_true, if_false, ↓reduceIte, Nat.reduceAdd, Nat.zero_add, Nat.add_zero, Nat.mul_one, reduceCtorEq, e25, e26]
  refine condK_of (fun h => ?_) (fun h => ?_) <;> simp only [decide_eq_true_eq, decide_eq_false_iff_not, bne_iff_ne, ne_eq, bne_eq_false_iff_eq, beq_iff_eq, beq_eq_false_iff_ne, Bool.not_eq_true, Bool.not_eq_eq_eq_not, Bool.not_true, Bool.not_false, Classical.not_not, Int.not_lt, Int.not_le] at h
  · have hcN : c < N := by omega
    have hbG : G.get H.n = .cells g.cs 28 := by rw [hI.ext.2 _ (by omega)]; exact hb
    have hgG := hg.ext (hE.trans hI.ext)
    have ls := iarr_len hgG.s
    have hup := ok.up c (by omega)
    have hup2 := ok.up' (c + 1) N (by omega) (by omega)
    simp -implicitDefEqProofs (disch := first | assumption | exact id rfl | omega | (simp only [AHeap.alloc_n, AHeap.put_n, SV.put_n, AHeap.kill_n, ne_eq, List.length_cons, List.length_nil]; omega)) only [i_Reverse_21, i_Reverse_22, i_Reverse_23, i_Reverse_24, i_Reverse_25, i_Reverse_26, i_Reverse_27, i_Reverse_28, SXs, cond_true, cond_false, env0, List.getElem?_cons_zero, List.getElem?_cons_succ, Nat.reduceEqDiff, if_true, if_false, ↓reduceIte, Nat.reduceAdd, Nat.zero_add, Nat.add_zero, Nat.mul_one, reduceCtorEq, e1, e2, e26, ldO_at, hbG, ldC_cells, Option.map_some, GV.get1, iarr_ld hgG.s]
    refine CW_inv (fun n e G => ∃ (i : Nat) (svs : List SV) (fr : List Int), (n : Int) = x.s.getD (c + 1) 0 - i ∧ x.s.getD c 0 ≤ i ∧ (i : Int) ≤ x.s.getD (c + 1) 0 ∧ e 1 = some (pt H.n 0) ∧ e 2 = some (pt (H.n + 1) 0) ∧ e 4 = some (SV.at G1.n 0 N).v ∧ e 5 = some (SV.at (G1.n + 1) 0 M).v ∧ e 25 = some (iv N) ∧ e 26 = some (iv c) ∧ e 6 = some (iv c) ∧ e 7 = some (iv i) ∧ Into1 G1 G1.n N M es i G svs fr) (x.s.getD (c + 1) 0 - x.s.getD c 0).toNat
      ⟨i, svs, fr, by omega, by omega, by omega, e1, e2, e4, e5, e25, e26, rfl, by simp only [put_some, ↓reduceIte, hsi], hI⟩ ?_
    clear hI e1 e2 e4 e5 e25 e26 hsi hgG hbG svs fr i
    rintro n' e G ⟨i, svs, fr, hn', hi1, hi2, e1, e2, e4, e5, e25, e26, e6, e7, hI⟩
    have hbG : G.get H.n = .cells g.cs 28 := by rw [hI.ext.2 _ (by omega)]; exact hb
    have hgG := hg.ext (hE.trans hI.ext)
    have lt := iarr_len hgG.t
    simp -implicitDefEqProofs (disch := first | assumption | exact id rfl | omega | (simp only [AHeap.alloc_n, AHeap.put_n, SV.put_n, AHeap.kill_n, ne_eq, List.length_cons, List.length_nil]; omega)) only [i_Reverse_29, i_Reverse_30, i_Reverse_31, i_Reverse_32, CW_cond, SXs, cond_true, cond_false, env0, List.getElem?_cons_zero, List.getElem?_cons_succ, Nat.reduceEqDiff, if_true, if_false, ↓reduceIte, Nat.reduceAdd, Nat.zero_add, Nat.add_zero, Nat.mul_one, reduceCtorEq, e1, e6, e7, ldO_at, hbG, ldC_cells, Option.map_some, GV.get1, iarr_ld hgG.s]
    refine condK_of (fun h => ?_) (fun h => ?_) <;> simp only [decide_eq_true_eq, decide_eq_false_iff_not, bne_iff_ne, ne_eq, bne_eq_false_iff_eq, beq_iff_eq, beq_eq_false_iff_ne, Bool.not_eq_true, Bool.not_eq_eq_eq_not, Bool.not_true, Bool.not_false, Classical.not_not, Int.not_lt, Int.not_le] at h
    · have hiM : i < M := by omega
      obtain ⟨c', q1, q2, q3, q4⟩ := hes.get i (by omega)
      have hed := ok.e i (by rw [hN']; omega)
      obtain ⟨u, hu⟩ : ∃ u : Nat, x.t.getD i 0 = u := ⟨(x.t.getD i 0).toNat, by have := hed.t; omega⟩
      have huN : u < N := by have := hed.t; omega
      obtain ⟨sv, hsv⟩ : ∃ sv, svs[u]? = some sv := ⟨_, List.getElem?_eq_getElem (by rw [hI.rl]; exact huN)⟩
      have hcc : c' = c := by
        rcases Nat.lt_trichotomy c c' with g | g | g
        · have := ok.up' (c + 1) c' (by omega) (by omega); omega
        · exact g.symm
        · have := ok.up' (c' + 1) c (by omega) (by omega); omega
      obtain ⟨hio, hoffs⟩ := hI.row u sv hsv
      have hstep := hI.step rfl q4 hu hsv hiM
      have hsl : sv.len = (idxE es u i).length := iarr_len hio.arr
      have hil : (idxE es u i).length ≤ i := by simp only [idxE, List.length_map]; exact Nat.le_trans (List.length_filter_le _ _) (by simp)
      have hia : ∀ G' : AHeap, iaO 1 (some (SV.at G1.n 0 N).v) (some (iv u)) G' = some ((SV.at G1.n 0 N).p u, G') := fun G' => by rw [iaO_n (show u < (SV.at G1.n 0 N).len from huN), Nat.mul_one]
      have hif : ∀ G' : AHeap, iaO 1 (some (SV.at (G1.n + 1) 0 M).v) (some (iv i)) G' = some ((SV.at (G1.n + 1) 0 M).p i, G') := fun G' => by rw [iaO_n (show i < (SV.at (G1.n + 1) 0 M).len from hiM), Nat.mul_one]
      have am : sv.apart (.at G1.n 0 N) := apart_of_off (hoffs G1.n (by omega))
      have af : sv.apart (.at (G1.n + 1) 0 M) := apart_of_off (hoffs (G1.n + 1) (by omega))
      have o1 := hI.rows.app1 (ds := [iv (i : Int)]) (cs := ints (idxE es u i)) (ty := 3) am
      have s1 := st_sv (a := .at (G.n + 1) 0 (sv.len + 1)) o1 (j := u) (by rw [hI.rl]; exact huN)
      have o2 : IOwn ((SV.at G1.n 0 N).put (G.app1 sv 3 (ints (idxE es u i)) [iv (i : Int)]) u [(SV.at (G.n + 1) 0 (sv.len + 1)).v]) (.at (G1.n + 1) 0 M) fr := (hI.fro.app1 af).sput (apart_of_off (by simp only [SV.off]; omega))
      have s2 := iown_st (n := (c : Int)) o2 (j := i) (by rw [hI.fl]; exact hiM)
      simp -implicitDefEqProofs (disch := first | assumption | exact id rfl | omega | (simp only [AHeap.alloc_n, AHeap.put_n, SV.put_n, AHeap.kill_n, ne_eq, List.length_cons, List.length_nil]; omega)) only [i_Reverse_33, i_Reverse_34, i_Reverse_35, i_Reverse_36, i_Reverse_37, i_Reverse_38, DXs, and_true, true_and, Nat.reduceSub, List.length_cons, List.length_nil, SXs, cond_true, cond_false, env0, List.getElem?_cons_zero, List.getElem?_cons_succ, Nat.reduceEqDiff, if_true, if_false, ↓reduceIte, Nat.reduceAdd, Nat.zero_add, Nat.add_zero, Nat.mul_one, reduceCtorEq, e1, e4, e5, e6, e7, ldO_at, hbG, ldC_cells, Option.map_some, GV.get2, iarr_ld hgG.t, hu, hia, hif, ld_sv hI.rows.arr hsv, mk_int, appO_one (bytes := 8) (ds := [iv (i : Int)]) hio rfl (by omega) (by omega), s1, s2]
      refine ⟨⟨?_, tchK_blk fun b hbb => ?_⟩, n' - 1, by omega, i + 1, _, _, by omega, by omega, by omega, e1, e2, e4, e5, e25, e26, e6, rfl, by rw [hcc] at hstep; exact hstep⟩
      · have hl := AHeap.lt_of hbG (by simp)
        rw [app1_get hl (hoffs _ (by omega)), AHeap.alloc_ne _ _ (by omega)]
      · have hbl : b < H.n := SV.lt_of_not_off hg.t.lt hbb
        have := (hE.trans hI.ext).1
        rw [app1_get (by omega) (hoffs _ (by omega)), AHeap.alloc_ne _ _ (by omega)]
    · have hie : (i : Int) = x.s.getD (c + 1) 0 := by omega
      simp -implicitDefEqProofs (disch := first | assumption | exact id rfl | omega | (simp only [AHeap.alloc_n, AHeap.put_n, SV.put_n, AHeap.kill_n, ne_eq, List.length_cons, List.length_nil]; omega)) only [i_Reverse_39, SXs, cond_true, cond_false, env0, List.getElem?_cons_zero, List.getElem?_cons_succ, Nat.reduceEqDiff, if_true, if_false, ↓reduceIte, Nat.reduceAdd, Nat.zero_add, Nat.add_zero, Nat.mul_one, reduceCtorEq, e26]
      exact ⟨N - (c + 1), by omega, c + 1, i, svs, fr, rfl, by omega, hie.symm, e1, e2, e4, e5, e25, rfl, hI⟩
  · have hcN : N = c := by omega
    subst hcN
    have hiM : M = i := by omega
    subst hiM
    obtain ⟨er, her⟩ : ∃ er, er = es.map E4.rev := ⟨_, rfl⟩
    have rok : EsOk er N := her ▸ rev_ok eok
    have hrl : (rowsE er N).length = M := by rw [rowsE_len rok.f, her]; simp [hel]
    have hrb : ∀ v, v ≤ N → (rowsE er v).length ≤ 6400 := fun v hv => by have := rowsE_mono (es := er) hv; omega
    have hbG : G.get H.n = .cells g.cs 28 := by rw [hI.ext.2 _ (by omega)]; exact hb
    have hrG : G.get (H.n + 1) = .cells (GV.mk 0 .nil .nil .nil .nil).cs 28 := by rw [hI.ext.2 _ (by omega)]; exact hr
    have hEG := hE.trans hI.ext
    have hgG := hg.ext hEG
    have hGn := hI.ext.1
    have hq : OutG G.n ((G.alloc (.cells [.int .i64 0, .slice none 0 0, .slice none 0 0, .slice none 0 0, .slice none 0 0] 28)).put G.n 0 (GV.mk N .nil .nil .nil .nil).cs) (GV.mk N .nil .nil .nil .nil) (pG N 0 er (rowsE er 0)) := by
      refine ⟨?_, ⟨rfl, Own.nil, Own.nil, Own.nil, Own.nil, fun _ => .inl trivial, fun _ => .inl trivial, fun _ => .inl trivial, fun _ => .inl trivial, fun _ => .inl trivial, fun _ => .inl trivial⟩, fun c _ => ⟨trivial, trivial, trivial, trivial⟩⟩
      rw [put_at, AHeap.alloc_self]; rfl
    have hE2 : Ext G ((G.alloc (.cells [.int .i64 0, .slice none 0 0, .slice none 0 0, .slice none 0 0, .slice none 0 0] 28)).put G.n 0 (GV.mk N .nil .nil .nil .nil).cs) := ((Ext.refl G).allocs _).put (Nat.le_refl _)
    have hn2 : G.n < ((G.alloc (.cells [.int .i64 0, .slice none 0 0, .slice none 0 0, .slice none 0 0, .slice none 0 0] 28)).put G.n 0 (GV.mk N .nil .nil .nil .nil).cs).n := by rw [AHeap.put_n]; simp
    have hst : ∀ (G' : AHeap) (b : Nat) (w : GV), stC 5 G' b (.cells [.int .i64 0, .slice none 0 0, .slice none 0 0, .slice none 0 0, .slice none 0 0] 28) 0 (.agg w.cs.toArray) = some (.tuple #[], G'.put b 0 w.cs) := fun G' b w => stC_agg (by simp [GV.cs_len]) (by simp)
    simp -implicitDefEqProofs (disch := first | assumption | exact id rfl | omega | (simp only [AHeap.alloc_n, AHeap.put_n, SV.put_n, AHeap.kill_n, ne_eq, List.length_cons, List.length_nil]; omega)) only [i_Reverse_40, i_Reverse_41, i_Reverse_42, i_Reverse_43, i_Reverse_44, i_Reverse_45, i_Reverse_46, SXs, cond_true, cond_false, env0, List.getElem?_cons_zero, List.getElem?_cons_succ, Nat.reduceEqDiff, if_true, if_false, ↓reduceIte, Nat.reduceAdd, Nat.zero_add, Nat.add_zero, Nat.mul_one, reduceCtorEq, e1, e2, e4, e5, ldO_at, hbG, ldC_cells, Option.map_some, GV.get0, hgn, build_graph, stO_at, alloc_at, hst, SV.len]
    generalize (G.alloc (.cells [.int .i64 0, .slice none 0 0, .slice none 0 0, .slice none 0 0, .slice none 0 0] 28)).put G.n 0 (GV.mk N .nil .nil .nil .nil).cs = F at *
    refine CW_inv (fun n e F => ∃ (v : Nat) (gv : GV), n = N - v ∧ v ≤ N ∧ e 1 = some (pt H.n 0) ∧ e 2 = some (pt (H.n + 1) 0) ∧ e 5 = some (SV.at (G1.n + 1) 0 M).v ∧ e 8 = some (pt G.n 0) ∧ e 70 = some (SV.at G1.n 0 N).v ∧ e 71 = some (iv N) ∧ e 72 = some (iv v) ∧ Ext G F ∧ G.n < F.n ∧ OutG G.n F gv (pG N v er (rowsE er v))) N
      ⟨0, _, by simp, by simp, (by first | trivial | assumption), (by first | trivial | assumption), (by first | trivial | assumption), rfl, by simp only [put_some]; trivial, rfl, rfl, hE2, hn2, hq⟩ ?_
    clear e1 e2 e4 e5 e25 e26 hE2 hn2 hq h
    clear F
    rintro n' e F ⟨v, gv, hn', hv, e1, e2, e5, e8, e70, e71, e72, hEF, hqn, ho⟩
    have hl1 : gv.s.len = v := by rw [iarr_len ho.own.s.arr]; simp [pG]
    have hl2 : gv.t.len = (rowsE er v).length := by rw [iarr_len ho.own.t.arr]; simp [pG]
    have hrv := hrb v hv
    obtain ⟨hst1, hst2, gv', hst3⟩ := ho.start rfl hqn
    simp -implicitDefEqProofs (disch := first | assumption | exact id rfl | omega | (simp only [AHeap.alloc_n, AHeap.put_n, SV.put_n, AHeap.kill_n, ne_eq, List.length_cons, List.length_nil]; omega)) only [i_Reverse_47, i_Reverse_48, i_Reverse_49, i_Reverse_50, CW_cond, SXs, cond_true, cond_false, env0, List.getElem?_cons_zero, List.getElem?_cons_succ, Nat.reduceEqDiff, if_true, if_false, ↓reduceIte, Nat.reduceAdd, Nat.zero_add, Nat.add_zero, Nat.mul_one, reduceCtorEq, e71, e72]
    refine condK_of (fun h => ?_) (fun h => ?_) <;> simp only [decide_eq_true_eq, decide_eq_false_iff_not, bne_iff_ne, ne_eq, bne_eq_false_iff_eq, beq_iff_eq, beq_eq_false_iff_ne, Bool.not_eq_true, Bool.not_eq_eq_eq_not, Bool.not_true, Bool.not_false, Classical.not_not, Int.not_lt, Int.not_le] at h
    · have hvN : v < N := by omega
      obtain ⟨sv, hsv⟩ : ∃ sv, svs[v]? = some sv := ⟨_, List.getElem?_eq_getElem (by rw [hI.rl]; exact hvN)⟩
      obtain ⟨hio, hoffs⟩ := hI.row v sv hsv
      obtain ⟨hrl1, hrl2⟩ := idxE_row (es := es) (v := v) (i := M) (by omega)
      rw [List.take_of_length_le (by omega), ← her] at hrl1 hrl2
      have hsl : sv.len = (rowE er v).length := by rw [iarr_len hio.arr, hrl1]
      have hia : ∀ G' : AHeap, iaO 1 (some (SV.at G1.n 0 N).v) (some (iv v)) G' = some ((SV.at G1.n 0 N).p v, G') := fun G' => by rw [iaO_n (show v < (SV.at G1.n 0 N).len from hvN), Nat.mul_one]
      simp -implicitDefEqProofs (disch := first | assumption | exact id rfl | omega | (simp only [AHeap.alloc_n, AHeap.put_n, SV.put_n, AHeap.kill_n, ne_eq, List.length_cons, List.length_nil]; omega)) only [i_Reverse_51, i_Reverse_52, i_Reverse_53, i_Reverse_54, i_Reverse_55, i_Reverse_56, i_Reverse_57, i_Reverse_58, i_Reverse_59, i_Reverse_60, SXs, cond_true, cond_false, env0, List.getElem?_cons_zero, List.getElem?_cons_succ, Nat.reduceEqDiff, if_true, if_false, ↓reduceIte, Nat.reduceAdd, Nat.zero_add, Nat.add_zero, Nat.mul_one, reduceCtorEq, e8, e70, e72, hia, ld_sv (hI.rows.ext hEF).arr hsv, ldO_at, ho.at', ldC_cells, Option.map_some, GV.get1, GV.get2, mk_int, appO_one (bytes := 8) (ds := [iv (gv.t.len : Int)]) ho.own.s rfl (by omega) (by omega), stO_at, app1_get hqn (ho.off _ (Nat.le_refl _)).1, gv_st, upd_fold]
      have hEF2 : Ext G (F.upd G.n 1 gv.s 3 (ints (pG N v er (rowsE er v)).s) [iv gv.t.len]) := ⟨by omega, fun b hb => by rw [hst2 b hb, hEF.2 b hb]⟩
      generalize F.upd G.n 1 gv.s 3 (ints (pG N v er (rowsE er v)).s) [iv gv.t.len] = F1 at *
      refine CW_inv (fun n e F => ∃ (j : Nat) (gv : GV), n = (rowE er v).length - j ∧ j ≤ (rowE er v).length ∧ e 1 = some (pt H.n 0) ∧ e 2 = some (pt (H.n + 1) 0) ∧ e 5 = some (SV.at (G1.n + 1) 0 M).v ∧ e 8 = some (pt G.n 0) ∧ e 70 = some (SV.at G1.n 0 N).v ∧ e 71 = some (iv N) ∧ e 72 = some (iv v) ∧ e 84 = some sv.v ∧ e 85 = some (iv (rowE er v).length) ∧ e 86 = some (iv j) ∧ Ext G F ∧ G.n < F.n ∧ OutG G.n F gv (pG N (v + 1) er (rowsE er v ++ (rowE er v).take j))) (rowE er v).length
        ⟨0, gv', by simp, by simp, e1, e2, e5, e8, e70, e71, e72, rfl, by rw [← hsl]; rfl, rfl, hEF2, by omega, by rw [List.take_zero, List.append_nil]; exact hst3⟩ ?_
      clear e1 e2 e5 e8 e70 e71 e72 hEF2 hst3 hst1 hst2 ho hEF hqn hl1 hl2
      clear gv gv' F F1
      rintro m e F ⟨j, gv, hm, hj, e1, e2, e5, e8, e70, e71, e72, e84, e85, e86, hEF, hqn, ho⟩
      simp -implicitDefEqProofs (disch := first | assumption | exact id rfl | omega | (simp only [AHeap.alloc_n, AHeap.put_n, SV.put_n, AHeap.kill_n, ne_eq, List.length_cons, List.length_nil]; omega)) only [i_Reverse_61, i_Reverse_62, i_Reverse_63, i_Reverse_64, CW_cond, SXs, cond_true, cond_false, env0, List.getElem?_cons_zero, List.getElem?_cons_succ, Nat.reduceEqDiff, if_true, if_false, ↓reduceIte, Nat.reduceAdd, Nat.zero_add, Nat.add_zero, Nat.mul_one, reduceCtorEq, e85, e86]
      refine condK_of (fun h => ?_) (fun h => ?_) <;> simp only [decide_eq_true_eq, decide_eq_false_iff_not, bne_iff_ne, ne_eq, bne_eq_false_iff_eq, beq_iff_eq, beq_eq_false_iff_ne, Bool.not_eq_true, Bool.not_eq_eq_eq_not, Bool.not_true, Bool.not_false, Classical.not_not, Int.not_lt, Int.not_le] at h
      · have hjl : j < (rowE er v).length := by omega
        obtain ⟨k, hk⟩ : ∃ k, (idxE es v M)[j]? = some k := ⟨_, List.getElem?_eq_getElem (by omega)⟩
        obtain ⟨k', e', rfl, he', hrow⟩ := hrl2 j k hk
        have hkM : k' < M := by have := (List.getElem?_eq_some_iff.1 he').1; omega
        obtain ⟨c', -, -, -, q4⟩ := hes.get k' (by omega)
        rw [he'] at q4
        have qd : x.d.getD k' 0 = e'.d := by cases q4; rfl
        have qc : x.c.getD k' 0 = e'.c := by cases q4; rfl
        have qf := hI.fe k' e' hkM he'
        have hgd : (idxE es v M).getD j 0 = (k' : Int) := by rw [List.getD_eq_getElem?_getD, hk]; rfl
        have hbF : F.get H.n = .cells g.cs 28 := by rw [hEF.2 _ (by omega)]; exact hbG
        have hgF := hgG.ext hEF
        have hioF := hio.ext hEF
        have hfF := hI.fro.ext hEF
        have ld := iarr_len hgF.d
        have lc := iarr_len hgF.c
        have hif : ∀ G' : AHeap, iaO 1 (some (SV.at (G1.n + 1) 0 M).v) (some (iv k')) G' = some ((SV.at (G1.n + 1) 0 M).p k', G') := fun G' => by rw [iaO_n (show k' < (SV.at (G1.n + 1) 0 M).len from hkM), Nat.mul_one]
        have hfl := hI.fl
        have hlf : ldO F (some ((SV.at (G1.n + 1) 0 M).p k')) = some (iv e'.f, F) := by rw [iarr_ld hfF.arr (by omega), qf]
        have hli : ldO F (some (sv.p j)) = some (iv k', F) := by rw [iarr_ld hioF.arr (by omega), hgd]
        simp -implicitDefEqProofs (disch := first | assumption | exact id rfl | omega | (simp only [AHeap.alloc_n, AHeap.put_n, SV.put_n, AHeap.kill_n, ne_eq, List.length_cons, List.length_nil]; omega)) only [i_Reverse_65, i_Reverse_66, i_Reverse_67, i_Reverse_68, i_Reverse_69, i_Reverse_70, SXs, cond_true, cond_false, env0, List.getElem?_cons_zero, List.getElem?_cons_succ, Nat.reduceEqDiff, if_true, if_false, ↓reduceIte, Nat.reduceAdd, Nat.zero_add, Nat.add_zero, Nat.mul_one, reduceCtorEq, e1, e5, e8, e84, e86, ldO_at, hbF, ldC_cells, Option.map_some, GV.get3, GV.get4, hli, hif, hlf, iarr_ld hgF.d, iarr_ld hgF.c, qd, qc]
        have hrt := hrb (v + 1) (by omega)
        rw [rowsE_succ, List.length_append] at hrt
        refine (add_rets ho.at' ho.own (ho.off _ (Nat.le_refl _)) (by rw [pG_size]; simp; omega)).mono ?_
        rintro _ F2 hn2 ⟨gv2, a1, a2, a3, a4⟩
        simp -implicitDefEqProofs (disch := first | assumption | exact id rfl | omega | (simp only [AHeap.alloc_n, AHeap.put_n, SV.put_n, AHeap.kill_n, ne_eq, List.length_cons, List.length_nil]; omega)) only [SXs, cond_true, cond_false, env0, List.getElem?_cons_zero, List.getElem?_cons_succ, Nat.reduceEqDiff, if_true, if_false, ↓reduceIte, Nat.reduceAdd, Nat.zero_add, Nat.add_zero, Nat.mul_one, reduceCtorEq, e86]
        refine ⟨m - 1, by omega, j + 1, gv2, by omega, by omega, e1, e2, e5, e8, e70, e71, e72, e84, e85, rfl, ⟨by omega, fun b hb => ?_⟩, by omega, a1, ?_, fun c hc => ?_⟩
        · rw [(a4 b (by omega) (by omega) (ho.off b (by omega))).1, hEF.2 b hb]
        · rw [← pG_add hrow]; exact a2
        · by_cases hcq : c = G.n
          · subst hcq; exact a3
          · exact (a4 c (by omega) hcq (ho.off c hc)).2
      · have hjl : j = (rowE er v).length := by omega
        subst hjl
        simp -implicitDefEqProofs (disch := first | assumption | exact id rfl | omega | (simp only [AHeap.alloc_n, AHeap.put_n, SV.put_n, AHeap.kill_n, ne_eq, List.length_cons, List.length_nil]; omega)) only [i_Reverse_71, SXs, cond_true, cond_false, env0, List.getElem?_cons_zero, List.getElem?_cons_succ, Nat.reduceEqDiff, if_true, if_false, ↓reduceIte, Nat.reduceAdd, Nat.zero_add, Nat.add_zero, Nat.mul_one, reduceCtorEq, e72]
        rw [List.take_length, ← rowsE_succ] at ho
        exact ⟨N - (v + 1), by omega, v + 1, gv, rfl, by omega, e1, e2, e5, e8, e70, e71, rfl, hEF, hqn, ho⟩
    · have hvN : v = N := by omega
      subst hvN
      have hrF : (F.upd G.n 1 gv.s 3 (ints (pG v v er (rowsE er v)).s) [iv gv.t.len]).get (H.n + 1) = .cells (GV.mk 0 .nil .nil .nil .nil).cs 28 := by rw [hst2 _ (by omega), hEF.2 _ (by omega)]; exact hrG
      have hql := hst3.at'
      simp -implicitDefEqProofs (disch := first | assumption | exact id rfl | omega | (simp only [AHeap.alloc_n, AHeap.put_n, SV.put_n, AHeap.kill_n, ne_eq, List.length_cons, List.length_nil]; omega)) only [i_Reverse_72, i_Reverse_73, i_Reverse_74, i_Reverse_75, aop_ld, aop_ldn, bodyK_ret, bodyK_normal, resL, resV, Option.map_some, oneV, blockK_exit, seqK_exit, seqK_ret, blockK_ret, loopK_exit, loopK_ret, rs_i_Reverse, SXs, cond_true, cond_false, env0, List.getElem?_cons_zero, List.getElem?_cons_succ, Nat.reduceEqDiff, if_true, if_false, ↓reduceIte, Nat.reduceAdd, Nat.zero_add, Nat.add_zero, Nat.mul_one, reduceCtorEq, e2, e8, ldO_at, ho.at', ldC_cells, Option.map_some, GV.get1, GV.get2, mk_int, appO_one (bytes := 8) (ds := [iv (gv.t.len : Int)]) ho.own.s rfl (by omega) (by omega), stO_at, app1_get hqn (ho.off _ (Nat.le_refl _)).1, gv_st, upd_fold, ldnO_at, hql, ldnC_cells, gv_seg, hrF, gv_stn, aop_ld, aop_ldn, bodyK_ret, bodyK_normal, resL, resV, Option.map_some, oneV, blockK_exit, seqK_exit, seqK_ret, blockK_ret, loopK_exit, loopK_ret, put_at, putC_cells, gv_spl]
      refine ⟨gv', rfl, ?_, ?_, fun b hb => hst3.off b (by omega)⟩
      · rw [← her]
        exact hst3.own.put' (hst3.off _ (by omega))
      · refine (hEG.trans ⟨by omega, fun b hb => ?_⟩).put (by omega)
        rw [hst2 b hb, hEF.2 b hb]
end Go.AB
