/- A graph out of edges, as the specification makes it. -/
import Derived.Test.YtnbamdhmhnhneaaT11
set_option linter.unusedVariables false
set_option linter.unusedSimpArgs false
set_option maxRecDepth 10000
set_option maxHeartbeats 2000000
namespace Go.AB
open Go.Proofs
variable {w0 : World} {H : AHeap}

/-- The graph that grows in the variable at q; what is below L is not its own. -/
structure OutL (q L : Nat) (F : AHeap) (gv : GV) (y : GD) : Prop where
  at' : F.get q = .cells gv.cs 28
  own : GOwn F gv y
  off : ∀ c, c < L → gv.off c
theorem OutL.add_s {q L : Nat} {F : AHeap} {gv : GV} {y : GD} {n : Int} (h : OutL q L F gv y) (hL : L ≤ F.n) (hq : q < L) :
    (F.upd q 1 gv.s 3 (ints y.s) [iv n]).n = F.n + 2 ∧ (∀ k, k < L → k ≠ q → (F.upd q 1 gv.s 3 (ints y.s) [iv n]).get k = F.get k) ∧ OutL q L (F.upd q 1 gv.s 3 (ints y.s) [iv n]) { gv with s := .at (F.n + 1) 0 (gv.s.len + 1) } { y with s := y.s ++ [n] } := by
  obtain ⟨h1, h2, h3, h4⟩ := GOwn.add_s (n := n) h.at' h.own (h.off q hq)
  refine ⟨upd_n, fun k hk hkq => (h4 k (by omega) hkq (h.off k hk)).1, h1, h2, fun c hc => ?_⟩
  by_cases hcq : c = q
  · subst hcq; exact h3
  · exact (h4 c (by omega) hcq (h.off c hc)).2
theorem OutL.add_t {q L : Nat} {F : AHeap} {gv : GV} {y : GD} {n : Int} (h : OutL q L F gv y) (hL : L ≤ F.n) (hq : q < L) :
    (F.upd q 2 gv.t 3 (ints y.t) [iv n]).n = F.n + 2 ∧ (∀ k, k < L → k ≠ q → (F.upd q 2 gv.t 3 (ints y.t) [iv n]).get k = F.get k) ∧ OutL q L (F.upd q 2 gv.t 3 (ints y.t) [iv n]) { gv with t := .at (F.n + 1) 0 (gv.t.len + 1) } { y with t := y.t ++ [n] } := by
  obtain ⟨h1, h2, h3, h4⟩ := GOwn.add_t (n := n) h.at' h.own (h.off q hq)
  refine ⟨upd_n, fun k hk hkq => (h4 k (by omega) hkq (h.off k hk)).1, h1, h2, fun c hc => ?_⟩
  by_cases hcq : c = q
  · subst hcq; exact h3
  · exact (h4 c (by omega) hcq (h.off c hc)).2
theorem OutL.add_d {q L : Nat} {F : AHeap} {gv : GV} {y : GD} {n : Int} (h : OutL q L F gv y) (hL : L ≤ F.n) (hq : q < L) :
    (F.upd q 3 gv.d 3 (ints y.d) [iv n]).n = F.n + 2 ∧ (∀ k, k < L → k ≠ q → (F.upd q 3 gv.d 3 (ints y.d) [iv n]).get k = F.get k) ∧ OutL q L (F.upd q 3 gv.d 3 (ints y.d) [iv n]) { gv with d := .at (F.n + 1) 0 (gv.d.len + 1) } { y with d := y.d ++ [n] } := by
  obtain ⟨h1, h2, h3, h4⟩ := GOwn.add_d (n := n) h.at' h.own (h.off q hq)
  refine ⟨upd_n, fun k hk hkq => (h4 k (by omega) hkq (h.off k hk)).1, h1, h2, fun c hc => ?_⟩
  by_cases hcq : c = q
  · subst hcq; exact h3
  · exact (h4 c (by omega) hcq (h.off c hc)).2
theorem OutL.add_c {q L : Nat} {F : AHeap} {gv : GV} {y : GD} {n : Int} (h : OutL q L F gv y) (hL : L ≤ F.n) (hq : q < L) :
    (F.upd q 4 gv.c 3 (ints y.c) [iv n]).n = F.n + 2 ∧ (∀ k, k < L → k ≠ q → (F.upd q 4 gv.c 3 (ints y.c) [iv n]).get k = F.get k) ∧ OutL q L (F.upd q 4 gv.c 3 (ints y.c) [iv n]) { gv with c := .at (F.n + 1) 0 (gv.c.len + 1) } { y with c := y.c ++ [n] } := by
  obtain ⟨h1, h2, h3, h4⟩ := GOwn.add_c (n := n) h.at' h.own (h.off q hq)
  refine ⟨upd_n, fun k hk hkq => (h4 k (by omega) hkq (h.off k hk)).1, h1, h2, fun c hc => ?_⟩
  by_cases hcq : c = q
  · subst hcq; exact h3
  · exact (h4 c (by omega) hcq (h.off c hc)).2
theorem EE_nil : EE.all [] = [] := rfl
theorem EE_mk {e : E4} {ty : TypeId} : mkslO ty 4 1 [.int .i64 0, .int .i64 0, .int .i64 0, .int .i64 0] (some [(0, .agg (EE.cs e).toArray)]) H = some ((SV.at H.n 0 1).v, H.alloc (.cells (EE.cs e) ty)) := mkslO_one rfl (by rw [cellsL_agg]; rfl) rfl
abbrev EOw (H : AHeap) (s : SV) (es : List E4) : Prop := Own H s 42 4 (EE.all es)
/-- The edges of each cell behind i edges. -/
structure RowsI (R : AHeap) (N : Nat) (es : List E4) (i : Nat) (G : AHeap) (svs : List SV) : Prop where
  ext : Ext R G
  n : R.n + 1 ≤ G.n
  rows : Own G (.at R.n 0 N) 39 1 (ESV.all svs)
  rl : svs.length = N
  row : ∀ (v : Nat) (sv : SV), svs[v]? = some sv → EOw G sv (rowE (es.take i) v) ∧ ∀ c, c < R.n + 1 → sv.off c
  ap : ∀ (u v : Nat) (a b : SV), u ≠ v → svs[u]? = some a → svs[v]? = some b → a.apart b
theorem rowE_take {es : List E4} {v i : Nat} {e : E4} (he : es[i]? = some e) : rowE (es.take (i + 1)) v = rowE (es.take i) v ++ if e.f = v then [e] else [] := by
  rw [List.take_add_one, he]
  simp only [Option.toList_some, rowE, List.filter_append]
  congr 1
  simp only [List.filter_cons, beq_iff_eq, List.filter_nil]
theorem RowsI.step {R G : AHeap} {N i u : Nat} {es : List E4} {svs : List SV} {e : E4} {sv : SV} (h : RowsI R N es i G svs) (he : es[i]? = some e) (hu : e.f = u) (hsv : svs[u]? = some sv) :
    RowsI R N es (i + 1) ((SV.at R.n 0 N).put (G.app1 sv 42 (EE.all (rowE (es.take i) u)) (EE.cs e)) u [(SV.at (G.n + 1) 0 (sv.len + 1)).v]) (svs.set u (.at (G.n + 1) 0 (sv.len + 1))) := by
  obtain ⟨hio, hoffs⟩ := h.row u sv hsv
  have hul : u < svs.length := (List.getElem?_eq_some_iff.1 hsv).1
  have hn := h.n
  have am : sv.apart (.at R.n 0 N) := apart_of_off (hoffs R.n (by omega))
  have h1 := h.rows.app1 (ds := EE.cs e) (cs := EE.all (rowE (es.take i) u)) (ty := 42) am
  have h2 := put_sv (a := .at (G.n + 1) 0 (sv.len + 1)) h1 (j := u) hul
  have r1 := app1_own (ds := EE.cs e) hio rfl
  rw [← Enc.all_one (E := EE), ← Enc.all_app, Enc.all_one] at r1
  have r2 : EOw ((SV.at R.n 0 N).put (G.app1 sv 42 (EE.all (rowE (es.take i) u)) (EE.cs e)) u [(SV.at (G.n + 1) 0 (sv.len + 1)).v]) (.at (G.n + 1) 0 (sv.len + 1)) (rowE (es.take i) u ++ [e]) := r1.sput (apart_of_off (by simp only [SV.off]; omega))
  refine ⟨?_, ?_, h2, by simp [h.rl], fun v sv' hv => ?_, fun v1 v2 a b hne ha hb => ?_⟩
  · exact (h.ext.app1 (fun b hb => hoffs b (by omega))).sput (fun b hb => by simp only [SV.off]; omega)
  · rw [SV.put_n, app1_n]; omega
  · rw [List.getElem?_set] at hv
    split at hv
    · rename_i huv
      subst huv
      cases hv
      refine ⟨?_, fun c hc => by simp only [SV.off]; omega⟩
      rw [rowE_take he, if_pos hu]
      exact r2
    · rename_i huv
      obtain ⟨q1, q2⟩ := h.row v sv' hv
      refine ⟨?_, q2⟩
      rw [rowE_take he, if_neg (by rw [hu]; omega), List.append_nil]
      exact (q1.app1 (h.ap u v sv sv' huv hsv hv)).sput (apart_of_off (q2 R.n (by omega))).symm
  · rw [List.getElem?_set] at ha hb
    split at ha
    · rename_i h1
      subst h1
      cases ha
      rw [if_neg hne] at hb
      exact apart_new (h.row v2 b hb).1.lt (by omega)
    · split at hb
      · rename_i h2
        subst h2
        cases hb
        exact (apart_new (h.row v1 a ha).1.lt (by omega)).symm
      · exact h.ap v1 v2 a b hne ha hb

theorem l5graph_rets {s : SV} {es : List E4} {N : Nat} (hes : Arr H s 42 4 (EE.all es)) (ok : EsOk es N) (hN : N ≤ 1600) (hel : es.length ≤ 6400) :
    Rets Go.Proofs.Try.prog w0 34 [iv N, s.v] H fun v H' => ∃ g' : GV, v = g'.v ∧ GOwn H' g' (gOf N es) ∧ Ext H H' ∧ ∀ b, b < H.n → g'.off b := by
  have hsl := enc_len hes (by omega)
  have hsb := hes.lt
  refine rets_fun rfl cf_s_l5graph (body_of ?_)
  have hst : ∀ (G' : AHeap) (b : Nat) (w : GV), stC 5 G' b (.cells [.int .i64 0, .slice none 0 0, .slice none 0 0, .slice none 0 0, .slice none 0 0] 28) 0 (.agg w.cs.toArray) = some (.tuple #[], G'.put b 0 w.cs) := fun G' b w => stC_agg (by simp [GV.cs_len]) (by simp)
  have hR : ∃ R : AHeap, (((H.alloc (.cells [.int .i64 0, .slice none 0 0, .slice none 0 0, .slice none 0 0, .slice none 0 0] 28)).alloc (.cells [.int .i64 0, .slice none 0 0, .slice none 0 0, .slice none 0 0, .slice none 0 0] 28)).put (H.n + 1) 0 (GV.mk N .nil .nil .nil .nil).cs) = R ∧ R.n = H.n + 2 ∧ R.get H.n = .cells (GV.mk 0 .nil .nil .nil .nil).cs 28 ∧ R.get (H.n + 1) = .cells (GV.mk N .nil .nil .nil .nil).cs 28 ∧ Ext H R := by
    refine ⟨_, rfl, by rw [AHeap.put_n]; rfl, ?_, ?_, (((Ext.refl H).allocs _).allocs _).put (by omega)⟩
    · rw [AHeap.put_ne (by omega), AHeap.alloc_ne _ _ (by simp), AHeap.alloc_self]; rfl
    · rw [put_at, show H.n + 1 = (H.alloc (.cells [.int .i64 0, .slice none 0 0, .slice none 0 0, .slice none 0 0, .slice none 0 0] 28)).n from rfl, AHeap.alloc_self]; rfl
  obtain ⟨R, hR0, hRn, hr, hq, hHR⟩ := hR
  simp -implicitDefEqProofs (disch := first | assumption | exact id rfl | omega | (simp only [AHeap.alloc_n, AHeap.put_n, SV.put_n, AHeap.kill_n, ne_eq, List.length_cons, List.length_nil]; omega)) only [s_l5graph_0, s_l5graph_1, s_l5graph_2, s_l5graph_3, s_l5graph_4, s_l5graph_5, s_l5graph_6, s_l5graph_7, s_l5graph_8, s_l5graph_9, s_l5graph_10, SXs, cond_true, cond_false, env0, List.getElem?_cons_zero, List.getElem?_cons_succ, Nat.reduceEqDiff, if_true, if_false, ↓reduceIte, Nat.reduceAdd, Nat.zero_add, Nat.add_zero, Nat.mul_one, reduceCtorEq, build_graph, stO_at, alloc_at, hst, hR0, mksO_n, nils, AHeap.alloc_n]
  refine CW_midq (fun e G => ∃ svs : List SV, e 0 = some (iv N) ∧ e 4 = some (pt H.n 0) ∧ e 5 = some (pt (H.n + 1) 0) ∧ e 6 = some (SV.at R.n 0 N).v ∧ RowsI R N es es.length G svs) ?_ ?_
  · refine CW_inv (fun n e G => ∃ (i : Nat) (svs : List SV), n = es.length - i ∧ i ≤ es.length ∧ e 0 = some (iv N) ∧ e 1 = some s.v ∧ e 4 = some (pt H.n 0) ∧ e 5 = some (pt (H.n + 1) 0) ∧ e 6 = some (SV.at R.n 0 N).v ∧ e 7 = some (iv i) ∧ RowsI R N es i G svs) es.length
      ⟨0, List.replicate N .nil, by simp, by simp, rfl, rfl, rfl, rfl, rfl, rfl, Ext.alloc _ _, by simp, Own.new (by rw [Enc.all_len]; simp), by simp, fun v sv hv => ?_, fun u v a b huv ha hb => ?_⟩ ?_
    · have : sv = .nil := by rw [List.getElem?_replicate] at hv; split at hv <;> cases hv; rfl
      subst this
      exact ⟨by rw [List.take_zero]; exact Own.nil, fun c _ => trivial⟩
    · have : a = .nil := by rw [List.getElem?_replicate] at ha; split at ha <;> cases ha; rfl
      subst this
      exact fun c => .inl trivial
    rintro n e G ⟨i, svs, hn, hi, e0, e1, e4, e5, e6, e7, hI⟩
    have hesG := hes.ext (hHR.trans hI.ext)
    simp -implicitDefEqProofs (disch := first | assumption | exact id rfl | omega | (simp only [AHeap.alloc_n, AHeap.put_n, SV.put_n, AHeap.kill_n, ne_eq, List.length_cons, List.length_nil]; omega)) only [s_l5graph_11, s_l5graph_12, s_l5graph_13, s_l5graph_14, CW_cond, SXs, cond_true, cond_false, env0, List.getElem?_cons_zero, List.getElem?_cons_succ, Nat.reduceEqDiff, if_true, if_false, ↓reduceIte, Nat.reduceAdd, Nat.zero_add, Nat.add_zero, Nat.mul_one, reduceCtorEq, e1, e7, hsl]
    refine condK_of (fun h => ?_) (fun h => ?_) <;> simp only [decide_eq_true_eq, decide_eq_false_iff_not, bne_iff_ne, ne_eq, bne_eq_false_iff_eq, beq_iff_eq, beq_eq_false_iff_ne, Bool.not_eq_true, Bool.not_eq_eq_eq_not, Bool.not_true, Bool.not_false, Classical.not_not, Int.not_lt, Int.not_le] at h
    · obtain ⟨ed, hed⟩ : ∃ ed, es[i]? = some ed := ⟨_, List.getElem?_eq_getElem (by omega)⟩
      have k1 := ok.f ed (List.mem_of_getElem? hed)
      obtain ⟨u, hu⟩ : ∃ u : Nat, ed.f = u := ⟨ed.f.toNat, by omega⟩
      have q0 : (EE.cs ed)[0]? = some (iv u) := by rw [EE0, hu]
      obtain ⟨sv, hsv⟩ : ∃ sv, svs[u]? = some sv := ⟨_, List.getElem?_eq_getElem (by rw [hI.rl]; omega)⟩
      obtain ⟨hio, hoffs⟩ := hI.row u sv hsv
      have hl1 := enc_len hio.arr (by omega)
      have hl2 : (rowE (es.take i) u).length ≤ i := Nat.le_trans (List.length_filter_le _ _) (by simp; omega)
      have hn' := hI.n
      have am : sv.apart (.at R.n 0 N) := apart_of_off (hoffs R.n (by omega))
      have o1 := hI.rows.app1 (ds := EE.cs ed) (cs := EE.all (rowE (es.take i) u)) (ty := 42) am
      have s1 := st_sv (a := .at (G.n + 1) 0 (sv.len + 1)) o1 (j := u) (by rw [hI.rl]; omega)
      have hia : ∀ G' : AHeap, iaO 1 (some (SV.at R.n 0 N).v) (some (iv u)) G' = some ((SV.at R.n 0 N).p u, G') := fun G' => by rw [iaO_n (show u < (SV.at R.n 0 N).len from by show u < N; omega), Nat.mul_one]
      have fa0 : ∀ G' : AHeap, faO 0 (some (s.p (i * 4))) G' = some (s.p (i * 4), G') := fun G' => faO_p (by omega)
      simp -implicitDefEqProofs (disch := first | assumption | exact id rfl | omega | (simp only [AHeap.alloc_n, AHeap.put_n, SV.put_n, AHeap.kill_n, ne_eq, List.length_cons, List.length_nil]; omega)) only [s_l5graph_15, s_l5graph_16, s_l5graph_17, s_l5graph_18, s_l5graph_19, s_l5graph_20, SXs, cond_true, cond_false, env0, List.getElem?_cons_zero, List.getElem?_cons_succ, Nat.reduceEqDiff, if_true, if_false, ↓reduceIte, Nat.reduceAdd, Nat.zero_add, Nat.add_zero, Nat.mul_one, reduceCtorEq, e1, e6, e7, fa0, ldE0 hesG hed q0, hia, ld_sv hI.rows.arr hsv, ldnE hesG (by omega) hed, EE_mk, appO_one (bytes := 32) (ds := EE.cs ed) hio rfl (by omega) (by omega), s1]
      exact ⟨es.length - (i + 1), by omega, i + 1, _, rfl, by omega, e0, e1, e4, e5, e6, rfl, hI.step hed hu hsv⟩
    · have : i = es.length := by omega
      subst this
      exact ⟨svs, (by first | trivial | assumption), (by first | trivial | assumption), (by first | trivial | assumption), (by first | trivial | assumption), hI⟩
  rintro e G1 hG1 ⟨svs, e0, e4, e5, e6, hI⟩
  have hrb : ∀ v, v ≤ N → (rowsE es v).length ≤ 6400 := fun v hv => by have := rowsE_mono (es := es) hv; rw [rowsE_len ok.f] at this; omega
  have hrw := hI.row
  rw [List.take_length] at hrw
  have hIn := hI.n
  have hout0 : OutL (H.n + 1) G1.n G1 (GV.mk N .nil .nil .nil .nil) (pG N 0 es (rowsE es 0)) := by
    refine ⟨by rw [hI.ext.2 _ (by omega)]; exact hq, ⟨rfl, Own.nil, Own.nil, Own.nil, Own.nil, fun _ => .inl trivial, fun _ => .inl trivial, fun _ => .inl trivial, fun _ => .inl trivial, fun _ => .inl trivial, fun _ => .inl trivial⟩, fun c _ => ⟨trivial, trivial, trivial, trivial⟩⟩
  have hia : ∀ (v : Nat) (G' : AHeap), v < N → iaO 1 (some (SV.at R.n 0 N).v) (some (iv v)) G' = some ((SV.at R.n 0 N).p v, G') := fun v G' hv => by rw [iaO_n (show v < (SV.at R.n 0 N).len from hv), Nat.mul_one]
  have hrows : ∀ F : AHeap, (∀ k, k < G1.n → k ≠ H.n + 1 → F.get k = G1.get k) → Own F (.at R.n 0 N) 39 1 (ESV.all svs) := fun F hF => hI.rows.keep fun b hb => hF b (SV.lt_of_not_off hI.rows.lt hb) (by simp only [SV.off, ne_eq, Decidable.not_not] at hb; omega)
  have hrow : ∀ F : AHeap, (∀ k, k < G1.n → k ≠ H.n + 1 → F.get k = G1.get k) → ∀ (v : Nat) (sv : SV), svs[v]? = some sv → EOw F sv (rowE es v) := fun F hF v sv hv => (hrw v sv hv).1.keep fun b hb => hF b (SV.lt_of_not_off (hrw v sv hv).1.lt hb) (fun hbe => hb ((hrw v sv hv).2 b (by omega)))
  simp -implicitDefEqProofs (disch := first | assumption | exact id rfl | omega | (simp only [AHeap.alloc_n, AHeap.put_n, SV.put_n, AHeap.kill_n, ne_eq, List.length_cons, List.length_nil]; omega)) only [s_l5graph_21, s_l5graph_22, s_l5graph_23, s_l5graph_24, s_l5graph_25, SXs, cond_true, cond_false, env0, List.getElem?_cons_zero, List.getElem?_cons_succ, Nat.reduceEqDiff, if_true, if_false, ↓reduceIte, Nat.reduceAdd, Nat.zero_add, Nat.add_zero, Nat.mul_one, reduceCtorEq]
  refine CW_midq (fun e F => ∃ gv : GV, e 4 = some (pt H.n 0) ∧ e 5 = some (pt (H.n + 1) 0) ∧ (∀ k, k < G1.n → k ≠ H.n + 1 → F.get k = G1.get k) ∧ G1.n ≤ F.n ∧ OutL (H.n + 1) G1.n F gv (pG N N es (rowsE es N))) ?_ ?_
  · refine CW_inv (fun n e F => ∃ (v : Nat) (gv : GV), n = N - v ∧ v ≤ N ∧ e 0 = some (iv N) ∧ e 4 = some (pt H.n 0) ∧ e 5 = some (pt (H.n + 1) 0) ∧ e 6 = some (SV.at R.n 0 N).v ∧ e 9 = some (iv v) ∧ (∀ k, k < G1.n → k ≠ H.n + 1 → F.get k = G1.get k) ∧ G1.n ≤ F.n ∧ OutL (H.n + 1) G1.n F gv (pG N v es (rowsE es v))) N
      ⟨0, _, by simp, by simp, e0, e4, e5, e6, rfl, fun _ _ _ => rfl, Nat.le_refl _, hout0⟩ ?_
    clear e0 e4 e5 e6 hout0
    rintro n e F ⟨v, gv, hn, hv, e0, e4, e5, e6, e9, hF, hFn, ho⟩
    simp -implicitDefEqProofs (disch := first | assumption | exact id rfl | omega | (simp only [AHeap.alloc_n, AHeap.put_n, SV.put_n, AHeap.kill_n, ne_eq, List.length_cons, List.length_nil]; omega)) only [s_l5graph_26, s_l5graph_27, s_l5graph_28, s_l5graph_29, CW_cond, SXs, cond_true, cond_false, env0, List.getElem?_cons_zero, List.getElem?_cons_succ, Nat.reduceEqDiff, if_true, if_false, ↓reduceIte, Nat.reduceAdd, Nat.zero_add, Nat.add_zero, Nat.mul_one, reduceCtorEq, e0, e9]
    refine condK_of (fun h => ?_) (fun h => ?_) <;> simp only [decide_eq_true_eq, decide_eq_false_iff_not, bne_iff_ne, ne_eq, bne_eq_false_iff_eq, beq_iff_eq, beq_eq_false_iff_ne, Bool.not_eq_true, Bool.not_eq_eq_eq_not, Bool.not_true, Bool.not_false, Classical.not_not, Int.not_lt, Int.not_le] at h
    · have hvN : v < N := by omega
      obtain ⟨sv, hsv⟩ : ∃ sv, svs[v]? = some sv := ⟨_, List.getElem?_eq_getElem (by rw [hI.rl]; exact hvN)⟩
      have hl1 : gv.s.len = v := by rw [iarr_len ho.own.s.arr]; simp [pG]
      have hl2 : gv.t.len = (rowsE es v).length := by rw [iarr_len ho.own.t.arr]; simp [pG]
      have hrv := hrb v hv
      obtain ⟨a1, a2, a3⟩ := ho.add_s (n := (gv.t.len : Int)) hFn (by omega)
      rw [hl2, pG_s, ← hl2] at a3
      simp -implicitDefEqProofs (disch := first | assumption | exact id rfl | omega | (simp only [AHeap.alloc_n, AHeap.put_n, SV.put_n, AHeap.kill_n, ne_eq, List.length_cons, List.length_nil]; omega)) only [s_l5graph_30, s_l5graph_31, s_l5graph_32, s_l5graph_33, s_l5graph_34, s_l5graph_35, s_l5graph_36, s_l5graph_37, SXs, cond_true, cond_false, env0, List.getElem?_cons_zero, List.getElem?_cons_succ, Nat.reduceEqDiff, if_true, if_false, ↓reduceIte, Nat.reduceAdd, Nat.zero_add, Nat.add_zero, Nat.mul_one, reduceCtorEq, e5, ldO_at, ho.at', ldC_cells, Option.map_some, GV.get1, GV.get2, mk_int, appO_one (bytes := 8) (ds := [iv (gv.t.len : Int)]) ho.own.s rfl (by omega) (by omega), stO_at, app1_get (show H.n + 1 < F.n by omega) (ho.off (H.n + 1) (by omega)).1, gv_st, upd_fold]
      generalize ({ gv with s := .at (F.n + 1) 0 (gv.s.len + 1) } : GV) = gv1 at *
      have hF1 : ∀ k, k < G1.n → k ≠ H.n + 1 → (F.upd (H.n + 1) 1 gv.s 3 (ints (pG N v es (rowsE es v)).s) [iv gv.t.len]).get k = G1.get k := fun k hk hkq => by rw [a2 k hk hkq, hF k hk hkq]
      generalize F.upd (H.n + 1) 1 gv.s 3 (ints (pG N v es (rowsE es v)).s) [iv gv.t.len] = F1 at *
      refine CW_midq (fun e F => ∃ gv : GV, e 0 = some (iv N) ∧ e 4 = some (pt H.n 0) ∧ e 5 = some (pt (H.n + 1) 0) ∧ e 6 = some (SV.at R.n 0 N).v ∧ e 9 = some (iv v) ∧ (∀ k, k < G1.n → k ≠ H.n + 1 → F.get k = G1.get k) ∧ G1.n ≤ F.n ∧ OutL (H.n + 1) G1.n F gv (pG N (v + 1) es (rowsE es (v + 1)))) ?_ ?_
      · refine CW_inv (fun n e F => ∃ (j : Nat) (gv : GV), n = (rowE es v).length - j ∧ j ≤ (rowE es v).length ∧ e 0 = some (iv N) ∧ e 4 = some (pt H.n 0) ∧ e 5 = some (pt (H.n + 1) 0) ∧ e 6 = some (SV.at R.n 0 N).v ∧ e 9 = some (iv v) ∧ e 10 = some (iv j) ∧ (∀ k, k < G1.n → k ≠ H.n + 1 → F.get k = G1.get k) ∧ G1.n ≤ F.n ∧ OutL (H.n + 1) G1.n F gv (pG N (v + 1) es (rowsE es v ++ (rowE es v).take j))) (rowE es v).length
          ⟨0, gv1, by simp, by simp, e0, e4, e5, e6, e9, rfl, hF1, by omega, by rw [List.take_zero, List.append_nil]; exact a3⟩ ?_
        clear e0 e4 e5 e6 e9 ho hF hFn a1 a2 a3 hF1 hl1 hl2
        clear gv gv1 F F1
        rintro m e F ⟨j, gv, hm, hj, e0, e4, e5, e6, e9, e10, hF, hFn, ho⟩
        have hrF := hrow F hF v sv hsv
        have hsl2 : sv.len = (rowE es v).length := enc_len hrF.arr (by omega)
        simp -implicitDefEqProofs (disch := first | assumption | exact id rfl | omega | (simp only [AHeap.alloc_n, AHeap.put_n, SV.put_n, AHeap.kill_n, ne_eq, List.length_cons, List.length_nil]; omega)) only [s_l5graph_38, s_l5graph_39, s_l5graph_40, s_l5graph_41, CW_cond, SXs, cond_true, cond_false, env0, List.getElem?_cons_zero, List.getElem?_cons_succ, Nat.reduceEqDiff, if_true, if_false, ↓reduceIte, Nat.reduceAdd, Nat.zero_add, Nat.add_zero, Nat.mul_one, reduceCtorEq, e6, e9, e10, hia v _ hvN, ld_sv (hrows F hF).arr hsv, hsl2]
        refine condK_of (fun h => ?_) (fun h => ?_) <;> simp only [decide_eq_true_eq, decide_eq_false_iff_not, bne_iff_ne, ne_eq, bne_eq_false_iff_eq, beq_iff_eq, beq_eq_false_iff_ne, Bool.not_eq_true, Bool.not_eq_eq_eq_not, Bool.not_true, Bool.not_false, Classical.not_not, Int.not_lt, Int.not_le] at h
        · obtain ⟨ed, hed⟩ : ∃ ed, (rowE es v)[j]? = some ed := ⟨_, List.getElem?_eq_getElem (by omega)⟩
          have hrt := hrb (v + 1) (by omega)
          rw [rowsE_succ, List.length_append] at hrt
          have fas : ∀ (k : Nat) (G' : AHeap), faO k (some (sv.p (j * 4))) G' = some (sv.p (j * 4 + k), G') := fun k G' => faO_p (by omega)
          have lt2 : gv.t.len = (rowsE es v).length + j := by rw [iarr_len ho.own.t.arr]; simp [pG]; omega
          obtain ⟨a1, a2, a3⟩ := ho.add_t (n := ed.t) hFn (by omega)
          have i1 : iaO 4 (some sv.v) (some (iv j)) F = some (sv.p (j * 4), F) := iaO_n (by omega)
          simp -implicitDefEqProofs (disch := first | assumption | exact id rfl | omega | (simp only [AHeap.alloc_n, AHeap.put_n, SV.put_n, AHeap.kill_n, ne_eq, List.length_cons, List.length_nil]; omega)) only [s_l5graph_42, s_l5graph_43, s_l5graph_44, s_l5graph_45, SXs, cond_true, cond_false, env0, List.getElem?_cons_zero, List.getElem?_cons_succ, Nat.reduceEqDiff, if_true, if_false, ↓reduceIte, Nat.reduceAdd, Nat.zero_add, Nat.add_zero, Nat.mul_one, reduceCtorEq, e5, e6, e9, e10, hia v _ hvN, ld_sv (hrows F hF).arr hsv, i1, fas, ldE hrF.arr hed EE1, ldO_at, ho.at', ldC_cells, Option.map_some, GV.get2, mk_int, appO_one (bytes := 8) (ds := [iv ed.t]) ho.own.t rfl (by omega) (by omega), stO_at, app1_get (show H.n + 1 < F.n by omega) (ho.off (H.n + 1) (by omega)).2.1, gv_st, upd_fold]
          have hn1 : (F.upd (H.n + 1) 2 gv.t 3 (ints (pG N (v + 1) es (rowsE es v ++ (rowE es v).take j)).t) [iv ed.t]).n = F.n + 2 := a1
          have hF1 : ∀ k, k < G1.n → k ≠ H.n + 1 → (F.upd (H.n + 1) 2 gv.t 3 (ints (pG N (v + 1) es (rowsE es v ++ (rowE es v).take j)).t) [iv ed.t]).get k = G1.get k := fun k hk hkq => by rw [a2 k hk hkq, hF k hk hkq]
          clear a1 a2
          generalize ({ gv with t := .at (F.n + 1) 0 (gv.t.len + 1) } : GV) = gv1 at *
          generalize F.upd (H.n + 1) 2 gv.t 3 (ints (pG N (v + 1) es (rowsE es v ++ (rowE es v).take j)).t) [iv ed.t] = F1 at *
          have hr1 := hrow F1 hF1 v sv hsv
          have ld2 : gv1.d.len = (rowsE es v).length + j := by rw [iarr_len a3.own.d.arr]; simp [pG]; omega
          obtain ⟨b1, b2, b3⟩ := a3.add_d (n := ed.d) (by omega) (by omega)
          have i2 : iaO 4 (some sv.v) (some (iv j)) F1 = some (sv.p (j * 4), F1) := iaO_n (by omega)
          simp -implicitDefEqProofs (disch := first | assumption | exact id rfl | omega | (simp only [AHeap.alloc_n, AHeap.put_n, SV.put_n, AHeap.kill_n, ne_eq, List.length_cons, List.length_nil]; omega)) only [s_l5graph_46, s_l5graph_47, SXs, cond_true, cond_false, env0, List.getElem?_cons_zero, List.getElem?_cons_succ, Nat.reduceEqDiff, if_true, if_false, ↓reduceIte, Nat.reduceAdd, Nat.zero_add, Nat.add_zero, Nat.mul_one, reduceCtorEq, e5, e6, e9, e10, hia v _ hvN, ld_sv (hrows F1 hF1).arr hsv, i2, fas, ldE hr1.arr hed EE2, ldO_at, a3.at', ldC_cells, Option.map_some, GV.get3, mk_int, appO_one (bytes := 8) (ds := [iv ed.d]) a3.own.d rfl (by omega) (by omega), stO_at, app1_get (show H.n + 1 < F1.n by omega) (a3.off (H.n + 1) (by omega)).2.2.1, gv_st, upd_fold]
          have hF2 : ∀ k, k < G1.n → k ≠ H.n + 1 → (F1.upd (H.n + 1) 3 gv1.d 3 (ints (pG N (v + 1) es (rowsE es v ++ (rowE es v).take j)).d) [iv ed.d]).get k = G1.get k := fun k hk hkq => by rw [b2 k hk hkq, hF1 k hk hkq]
          clear b2
          dsimp only at b1 b3
          generalize ({ gv1 with d := .at (F1.n + 1) 0 (gv1.d.len + 1) } : GV) = gv2 at *
          generalize F1.upd (H.n + 1) 3 gv1.d 3 (ints (pG N (v + 1) es (rowsE es v ++ (rowE es v).take j)).d) [iv ed.d] = F2 at *
          have hr2 := hrow F2 hF2 v sv hsv
          have lc2 : gv2.c.len = (rowsE es v).length + j := by rw [iarr_len b3.own.c.arr]; simp [pG]; omega
          obtain ⟨c1, c2, c3⟩ := b3.add_c (n := ed.c) (by omega) (by omega)
          dsimp only at c1 c2 c3
          have i3 : iaO 4 (some sv.v) (some (iv j)) F2 = some (sv.p (j * 4), F2) := iaO_n (by omega)
          simp -implicitDefEqProofs (disch := first | assumption | exact id rfl | omega | (simp only [AHeap.alloc_n, AHeap.put_n, SV.put_n, AHeap.kill_n, ne_eq, List.length_cons, List.length_nil]; omega)) only [s_l5graph_48, s_l5graph_49, SXs, cond_true, cond_false, env0, List.getElem?_cons_zero, List.getElem?_cons_succ, Nat.reduceEqDiff, if_true, if_false, ↓reduceIte, Nat.reduceAdd, Nat.zero_add, Nat.add_zero, Nat.mul_one, reduceCtorEq, e5, e6, e9, e10, hia v _ hvN, ld_sv (hrows F2 hF2).arr hsv, i3, fas, ldE hr2.arr hed EE3, ldO_at, b3.at', ldC_cells, Option.map_some, GV.get4, mk_int, appO_one (bytes := 8) (ds := [iv ed.c]) b3.own.c rfl (by omega) (by omega), stO_at, app1_get (show H.n + 1 < F2.n by omega) (b3.off (H.n + 1) (by omega)).2.2.2, gv_st, upd_fold]
          rw [pG_add hed] at c3
          exact ⟨m - 1, by omega, j + 1, _, by omega, by omega, e0, e4, e5, e6, e9, rfl, fun k hk hkq => by rw [c2 k hk hkq, hF2 k hk hkq], by omega, c3⟩
        · have hje : j = (rowE es v).length := by omega
          subst hje
          rw [List.take_length, ← rowsE_succ] at ho
          exact ⟨gv, (by first | trivial | assumption), (by first | trivial | assumption), (by first | trivial | assumption), (by first | trivial | assumption), (by first | trivial | assumption), hF, hFn, ho⟩
      · clear e0 e4 e5 e6 e9 ho hF hFn a1 a2 a3 hF1 hl1 hl2
        rintro e F hn' ⟨gv, e0, e4, e5, e6, e9, hF, hFn, ho⟩
        simp -implicitDefEqProofs (disch := first | assumption | exact id rfl | omega | (simp only [AHeap.alloc_n, AHeap.put_n, SV.put_n, AHeap.kill_n, ne_eq, List.length_cons, List.length_nil]; omega)) only [s_l5graph_50, SXs, cond_true, cond_false, env0, List.getElem?_cons_zero, List.getElem?_cons_succ, Nat.reduceEqDiff, if_true, if_false, ↓reduceIte, Nat.reduceAdd, Nat.zero_add, Nat.add_zero, Nat.mul_one, reduceCtorEq, e9]
        exact ⟨N - (v + 1), by omega, v + 1, gv, rfl, by omega, e0, e4, e5, e6, rfl, hF, hFn, ho⟩
    · have : v = N := by omega
      subst this
      exact ⟨gv, (by first | trivial | assumption), (by first | trivial | assumption), hF, hFn, ho⟩
  · clear e0 e4 e5 e6 hout0
    rintro e F hn' ⟨gv, e4, e5, hF, hFn, ho⟩
    have hl1 : gv.s.len = N := by rw [iarr_len ho.own.s.arr]; simp [pG]
    have hl2 : gv.t.len = (rowsE es N).length := by rw [iarr_len ho.own.t.arr]; simp [pG]
    have hrv := hrb N (Nat.le_refl _)
    obtain ⟨a1, a2, a3⟩ := ho.add_s (n := (gv.t.len : Int)) hFn (by omega)
    rw [hl2, pG_s, ← hl2] at a3
    have hrF : (F.upd (H.n + 1) 1 gv.s 3 (ints (pG N N es (rowsE es N)).s) [iv gv.t.len]).get H.n = .cells (GV.mk 0 .nil .nil .nil .nil).cs 28 := by rw [a2 _ (by omega) (by omega), hF _ (by omega) (by omega), hI.ext.2 _ (by omega)]; exact hr
    have hE : ∀ b, b < H.n → (F.upd (H.n + 1) 1 gv.s 3 (ints (pG N N es (rowsE es N)).s) [iv gv.t.len]).get b = H.get b := fun b hb => by rw [a2 b (by omega) (by omega), hF b (by omega) (by omega), hI.ext.2 b (by omega), hHR.2 b hb]
    simp -implicitDefEqProofs (disch := first | assumption | exact id rfl | omega | (simp only [AHeap.alloc_n, AHeap.put_n, SV.put_n, AHeap.kill_n, ne_eq, List.length_cons, List.length_nil]; omega)) only [s_l5graph_51, s_l5graph_52, s_l5graph_53, s_l5graph_54, aop_ld, aop_ldn, bodyK_ret, bodyK_normal, resL, resV, Option.map_some, oneV, blockK_exit, seqK_exit, seqK_ret, blockK_ret, loopK_exit, loopK_ret, rs_s_l5graph, SXs, cond_true, cond_false, env0, List.getElem?_cons_zero, List.getElem?_cons_succ, Nat.reduceEqDiff, if_true, if_false, ↓reduceIte, Nat.reduceAdd, Nat.zero_add, Nat.add_zero, Nat.mul_one, reduceCtorEq, aop_ld, aop_ldn, bodyK_ret, bodyK_normal, resL, resV, Option.map_some, oneV, blockK_exit, seqK_exit, seqK_ret, blockK_ret, loopK_exit, loopK_ret, e4, e5, ldO_at, ho.at', ldC_cells, Option.map_some, GV.get1, GV.get2, mk_int, appO_one (bytes := 8) (ds := [iv (gv.t.len : Int)]) ho.own.s rfl (by omega) (by omega), stO_at, app1_get (show H.n + 1 < F.n by omega) (ho.off (H.n + 1) (by omega)).1, gv_st, upd_fold, ldnO_at, a3.at', ldnC_cells, gv_seg, hrF, gv_stn, put_at, putC_cells, gv_spl]
    refine ⟨_, rfl, a3.own.put' (a3.off H.n (by omega)), ⟨by rw [AHeap.put_n]; omega, fun b hb => ?_⟩, fun b hb => a3.off b (by omega)⟩
    rw [AHeap.put_ne (by omega), hE b hb]
end Go.AB
