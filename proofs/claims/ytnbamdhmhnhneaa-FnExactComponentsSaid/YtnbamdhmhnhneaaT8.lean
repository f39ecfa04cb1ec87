/- The heap of what is reached. -/
import Derived.Test.YtnbamdhmhnhneaaB20
import Derived.Test.YtnbamdhmhnhneaaT6
set_option linter.unusedVariables false
set_option linter.unusedSimpArgs false
set_option maxRecDepth 10000
namespace Go.AB
open Go.Proofs
variable {w0 : World} {H : AHeap}

def RQ : Enc (Int × Int) 2 := ⟨fun p => [iv p.1, iv p.2], fun _ => rfl⟩
theorem RQ0 {p : Int × Int} : (RQ.cs p)[0]? = some (iv p.1) := rfl
theorem RQ1 {p : Int × Int} : (RQ.cs p)[1]? = some (iv p.2) := rfl
theorem RQl {p : Int × Int} : (RQ.cs p).length = 2 := rfl
abbrev LESS : Value := .func (.func 23) #[] #[]
theorem less_able : callable Go.Proofs.Try.prog 23 = true := by kernel_rfl
theorem rless_rets {p q : Int × Int} : Rets Go.Proofs.Try.prog w0 23 [.agg (RQ.cs p).toArray, .agg (RQ.cs q).toArray] H fun v H' => v = .bool (decide (p.2 < q.2)) ∧ Ext H H' := by
  refine rets_fun rfl cf_i_Route_1 (body_of ?_)
  simp -implicitDefEqProofs (disch := first | assumption | exact id rfl | omega | (simp only [AHeap.alloc_n, AHeap.put_n, SV.put_n, AHeap.kill_n, ne_eq, List.length_cons, List.length_nil]; omega)) only [i_Route_1_0, i_Route_1_1, i_Route_1_2, i_Route_1_3, aop_ld, aop_ldn, bodyK_ret, bodyK_normal, resL, resV, Option.map_some, oneV, blockK_exit, seqK_exit, seqK_ret, blockK_ret, loopK_exit, loopK_ret, rs_i_Route_1, SXs, cond_true, cond_false, env0, List.getElem?_cons_zero, List.getElem?_cons_succ, Nat.reduceEqDiff, if_true, if_false, ↓reduceIte, Nat.reduceAdd, Nat.zero_add, Nat.add_zero, Nat.mul_one, reduceCtorEq, HXs, Option.map_some, List.length_cons, List.length_nil, List.take_succ_cons, List.take_zero, List.drop_succ_cons, List.drop_zero, List.cons_append, List.nil_append, RQ1]
  exact ⟨trivial, ((Ext.refl H).allocs _).allocs _⟩
theorem getD_of {q : PQ} {i : Nat} (h : i < q.length) : q[i]? = some (q.getD i (0, 0)) := by simp [List.getD_eq_getElem?_getD, h]
theorem RQ_build {a b : Int} : buildO [.int .i64 0, .int .i64 0] [(0, 1), (1, 1)] (some [(0, iv a), (1, iv b)]) H = some (.agg (RQ.cs (a, b)).toArray, H) := rfl
theorem RQ_mk {p : Int × Int} {ty : TypeId} : mkslO ty 2 1 [.int .i64 0, .int .i64 0] (some [(0, .agg (RQ.cs p).toArray)]) H = some ((SV.at H.n 0 1).v, H.alloc (.cells (RQ.cs p) ty)) := mkslO_one rfl (by rw [cellsL_agg]; rfl) rfl

/-- What the heap's variable holds. -/
structure HP (H : AHeap) (b : Nat) (s : SV) (q : PQ) : Prop where
  at' : H.get b = .cells [s.v, LESS] 53
  own : Own H s 49 2 (RQ.all q)
  off : s.off b
  ok : HeapOk q

theorem hput_rets {b : Nat} {s : SV} {q : PQ} {p : Int × Int} (h : HP H b s q) (hlen : q.length ≤ 2 ^ 40) :
    Rets Go.Proofs.Try.prog w0 24 [pt b 0, .agg (RQ.cs p).toArray] H fun v H' => ∃ s' q', HP H' b s' q' ∧ q'.Perm (p :: q) ∧ ∀ k, k < H.n → k ≠ b → s.off k → H'.get k = H.get k ∧ s'.off k := by
  obtain ⟨hb, ho, hoff, hq⟩ := h
  have hl := enc_len ho.arr (by omega)
  have hbl := AHeap.lt_of hb (by simp)
  refine rets_fun rfl cf_i_heap_i_reached_put (body_of ?_)
  have hb1 : (H.alloc (.cells (RQ.cs p) 49)).get b = .cells [s.v, LESS] 53 := by rw [AHeap.alloc_ne _ _ (by omega)]; exact hb
  have hg1 : (H.alloc (.cells (RQ.cs p) 49)).get H.n = .cells (RQ.cs p) 49 := AHeap.alloc_self _ _
  have ho1 := ho.alloc (o := .cells (RQ.cs p) 49)
  have hn1 : (H.alloc (.cells (RQ.cs p) 49)).n = H.n + 1 := rfl
  have hk1 : ∀ k, k < H.n → (H.alloc (.cells (RQ.cs p) 49)).get k = H.get k := fun k hk => AHeap.alloc_ne _ _ (by omega)
  simp -implicitDefEqProofs (disch := first | assumption | exact id rfl | omega | (simp only [AHeap.alloc_n, AHeap.put_n, SV.put_n, AHeap.kill_n, ne_eq, List.length_cons, List.length_nil]; omega)) only [i_heap_i_reached_put_0, i_heap_i_reached_put_1, SXs, cond_true, cond_false, env0, List.getElem?_cons_zero, List.getElem?_cons_succ, Nat.reduceEqDiff, if_true, if_false, ↓reduceIte, Nat.reduceAdd, Nat.zero_add, Nat.add_zero, Nat.mul_one, reduceCtorEq, boxO_agg]
  generalize H.alloc (.cells (RQ.cs p) 49) = G at *
  simp -implicitDefEqProofs (disch := first | assumption | exact id rfl | omega | (simp only [AHeap.alloc_n, AHeap.put_n, SV.put_n, AHeap.kill_n, ne_eq, List.length_cons, List.length_nil]; omega)) only [i_heap_i_reached_put_2, i_heap_i_reached_put_3, SXs, cond_true, cond_false, env0, List.getElem?_cons_zero, List.getElem?_cons_succ, Nat.reduceEqDiff, if_true, if_false, ↓reduceIte, Nat.reduceAdd, Nat.zero_add, Nat.add_zero, Nat.mul_one, reduceCtorEq, ldO_at, ldnO_at, hb1, hg1, ldC_cells, ldnC_cells, seg_enc, Option.map_some, RQ_mk, appO_one (bytes := 16) (ds := RQ.cs p) ho1 rfl (by omega) (by omega), stO_at, app1_get (show b < G.n by omega) hoff, stC_s, List.length_cons, List.length_nil, upd_fold]
  have hb2 := upd_self (j := 0) (ty := 49) (cs := RQ.all q) (ds := RQ.cs p) hb1 hoff
  have ho2 := upd_own (b := b) (j := 0) (ds := RQ.cs p) ho1 rfl (by omega)
  have hk2 : ∀ k, k < H.n → k ≠ b → s.off k → (G.upd b 0 s 49 (RQ.all q) (RQ.cs p)).get k = H.get k := fun k hk hkb hs => by rw [upd_ne (by omega) hkb hs, hk1 k hk]
  rw [← Enc.all_one (E := RQ), ← Enc.all_app, Enc.all_one] at ho2
  rw [splice_zero] at hb2
  have hs1 : ∀ k, k < H.n → (SV.at (G.n + 1) 0 (s.len + 1)).off k := fun k hk => by simp only [SV.off]; omega
  have hl1 : (SV.at (G.n + 1) 0 (s.len + 1)).len = q.length + 1 := by show s.len + 1 = _; omega
  have hn2 : (G.upd b 0 s 49 (RQ.all q) (RQ.cs p)).n = G.n + 2 := upd_n
  have e4 : ((q.length + 1 : Nat) : Int) - 1 = (q.length : Int) := by omega
  generalize G.upd b 0 s 49 (RQ.all q) (RQ.cs p) = F at *
  generalize SV.at (G.n + 1) 0 (s.len + 1) = s1 at *
  have hb2' : F.get b = .cells [s1.v, LESS] 53 := hb2
  have hs1b : s1.off b := hs1 b (by omega)
  clear hb2
  simp -implicitDefEqProofs (disch := first | assumption | exact id rfl | omega | (simp only [AHeap.alloc_n, AHeap.put_n, SV.put_n, AHeap.kill_n, ne_eq, List.length_cons, List.length_nil]; omega)) only [i_heap_i_reached_put_4, i_heap_i_reached_put_5, i_heap_i_reached_put_6, i_heap_i_reached_put_7, SXs, cond_true, cond_false, env0, List.getElem?_cons_zero, List.getElem?_cons_succ, Nat.reduceEqDiff, if_true, if_false, ↓reduceIte, Nat.reduceAdd, Nat.zero_add, Nat.add_zero, Nat.mul_one, reduceCtorEq, ldO_at, hb2', ldC_cells, Option.map_some, hl1, e4]
  refine CW_inv (fun n e F => ∃ (i : Nat) (r : PQ), n = i ∧ i < r.length ∧ e 0 = some (pt b 0) ∧ e 4 = some (iv i) ∧ F.get b = .cells [s1.v, LESS] 53 ∧ Own F s1 49 2 (RQ.all r) ∧ UpOk r i ∧ r.Perm (p :: q) ∧ H.n ≤ F.n ∧ ∀ k, k < H.n → k ≠ b → s.off k → F.get k = H.get k) q.length
    ⟨q.length, q ++ [p], rfl, by simp, rfl, rfl, hb2', ho2, UpOk.begin hq, List.perm_append_singleton p q, by omega, hk2⟩ ?_
  clear hk2 ho2 hb2' hb1 hg1 ho1 hk1 hl1 hn2
  clear F
  rintro n e F ⟨i, r, hn, hi, e0, e4, hb, ho, hup, hperm, hFn, hk⟩
  have hl := enc_len ho.arr (by omega)
  have hrl := hperm.length_eq
  simp only [List.length_cons] at hrl
  simp -implicitDefEqProofs (disch := first | assumption | exact id rfl | omega | (simp only [AHeap.alloc_n, AHeap.put_n, SV.put_n, AHeap.kill_n, ne_eq, List.length_cons, List.length_nil]; omega)) only [i_heap_i_reached_put_8, i_heap_i_reached_put_9, i_heap_i_reached_put_10, i_heap_i_reached_put_11, CW_cond, SXs, cond_true, cond_false, env0, List.getElem?_cons_zero, List.getElem?_cons_succ, Nat.reduceEqDiff, if_true, if_false, ↓reduceIte, Nat.reduceAdd, Nat.zero_add, Nat.add_zero, Nat.mul_one, reduceCtorEq, e0, e4]
  refine condK_of (fun h => ?_) (fun h => ?_) <;> simp only [decide_eq_true_eq, decide_eq_false_iff_not, bne_iff_ne, ne_eq, bne_eq_false_iff_eq, beq_iff_eq, beq_eq_false_iff_ne, Bool.not_eq_true, Bool.not_eq_eq_eq_not, Bool.not_true, Bool.not_false, Classical.not_not, Int.not_lt, Int.not_le] at h
  · obtain ⟨i, rfl⟩ : ∃ k : Nat, i = k + 1 := ⟨i - 1, by omega⟩
    have e1 : ((i + 1 : Nat) : Int) - 1 = (i : Int) := by omega
    have e2 : (i : Int) / 2 = ((i / 2 : Nat) : Int) := by omega
    have hu : i / 2 < r.length := by omega
    simp -implicitDefEqProofs (disch := first | assumption | exact id rfl | omega | (simp only [AHeap.alloc_n, AHeap.put_n, SV.put_n, AHeap.kill_n, ne_eq, List.length_cons, List.length_nil]; omega)) only [i_heap_i_reached_put_12, i_heap_i_reached_put_13, i_heap_i_reached_put_14, i_heap_i_reached_put_15, i_heap_i_reached_put_16, i_heap_i_reached_put_17, i_heap_i_reached_put_18, CW_cond, SXs, cond_true, cond_false, env0, List.getElem?_cons_zero, List.getElem?_cons_succ, Nat.reduceEqDiff, if_true, if_false, ↓reduceIte, Nat.reduceAdd, Nat.zero_add, Nat.add_zero, Nat.mul_one, reduceCtorEq, e0, e4, e1, bin_quo, e2, nilck_pt, ldO_at, hb, ldC_cells, Option.map_some, ldnE ho.arr (by omega) (getD_of hi), ldnE ho.arr (by omega) (getD_of hu), callvK_func, less_able, true_and, List.append_nil, List.nil_append, List.toList_toArray]
    refine rless_rets.mono ?_
    rintro _ F1 _ ⟨rfl, hE⟩
    have hb' : F1.get b = .cells [s1.v, LESS] 53 := by rw [hE.2 _ (by omega)]; exact hb
    have ho' := ho.ext hE
    have hk' : ∀ k, k < H.n → k ≠ b → s.off k → F1.get k = H.get k := fun k h1 h2 h3 => by rw [hE.2 _ (by omega)]; exact hk k h1 h2 h3
    have hFn' : H.n ≤ F1.n := Nat.le_trans hFn hE.1
    rename_i hFF
    clear hb ho hk hE hFn hFF F
    simp -implicitDefEqProofs (disch := first | assumption | exact id rfl | omega | (simp only [AHeap.alloc_n, AHeap.put_n, SV.put_n, AHeap.kill_n, ne_eq, List.length_cons, List.length_nil]; omega)) only [SXs, cond_true, cond_false, env0, List.getElem?_cons_zero, List.getElem?_cons_succ, Nat.reduceEqDiff, if_true, if_false, ↓reduceIte, Nat.reduceAdd, Nat.zero_add, Nat.add_zero, Nat.mul_one, reduceCtorEq]
    refine condK_of (fun h => ?_) (fun h => ?_) <;> simp only [decide_eq_true_eq, decide_eq_false_iff_not, bne_iff_ne, ne_eq, bne_eq_false_iff_eq, beq_iff_eq, beq_eq_false_iff_ne, Bool.not_eq_true, Bool.not_eq_eq_eq_not, Bool.not_true, Bool.not_false, Classical.not_not, Int.not_lt, Int.not_le] at h
    · simp -implicitDefEqProofs (disch := first | assumption | exact id rfl | omega | (simp only [AHeap.alloc_n, AHeap.put_n, SV.put_n, AHeap.kill_n, ne_eq, List.length_cons, List.length_nil]; omega)) only [SXs, cond_true, cond_false, env0, List.getElem?_cons_zero, List.getElem?_cons_succ, Nat.reduceEqDiff, if_true, if_false, ↓reduceIte, Nat.reduceAdd, Nat.zero_add, Nat.add_zero, Nat.mul_one, reduceCtorEq, aop_ld, aop_ldn, bodyK_ret, bodyK_normal, resL, resV, Option.map_some, oneV, blockK_exit, seqK_exit, seqK_ret, blockK_ret, loopK_exit, loopK_ret, rs_i_heap_i_reached_put]
      refine ⟨s1, r, ⟨hb', ho', hs1b, hup.done fun _ _ => ?_⟩, hperm, fun k h1 h2 h3 => ⟨hk' k h1 h2 h3, hs1 k h1⟩⟩
      simpa [pd] using h
    · have hsw := stE (x := r.getD (i / 2) (0, 0)) ho' (by omega) hi
      have ho2 := putE (x := r.getD (i / 2) (0, 0)) ho' hi
      have hsw2 := stE (x := r.getD (i + 1) (0, 0)) ho2 (by omega) (j := i / 2) (by simpa using hu)
      have ho3 := putE (x := r.getD (i + 1) (0, 0)) ho2 (j := i / 2) (by simpa using hu)
      simp -implicitDefEqProofs (disch := first | assumption | exact id rfl | omega | (simp only [AHeap.alloc_n, AHeap.put_n, SV.put_n, AHeap.kill_n, ne_eq, List.length_cons, List.length_nil]; omega)) only [i_heap_i_reached_put_19, i_heap_i_reached_put_20, i_heap_i_reached_put_21, SXs, cond_true, cond_false, env0, List.getElem?_cons_zero, List.getElem?_cons_succ, Nat.reduceEqDiff, if_true, if_false, ↓reduceIte, Nat.reduceAdd, Nat.zero_add, Nat.add_zero, Nat.mul_one, reduceCtorEq, e0, e4, nilck_pt, ldO_at, hb', ldC_cells, Option.map_some, ldnE ho'.arr (by omega) (getD_of hi), ldnE ho'.arr (by omega) (getD_of hu), hsw, hsw2]
      refine ⟨i / 2, by omega, i / 2, swp r (i + 1) (i / 2), rfl, by rw [swp_len]; exact hu, e0, rfl, ?_, ho3, ?_, (swp_perm hi hu).trans hperm, by rw [SV.put_n, SV.put_n]; exact hFn', fun k h1 h2 h3 => ?_⟩
      · rw [SV.put_ne hs1b, SV.put_ne hs1b]; exact hb'
      · have := hup.step (by omega) hi (by simpa [pd] using h)
        simpa using this
      · rw [SV.put_ne (hs1 k h1), SV.put_ne (hs1 k h1)]; exact hk' k h1 h2 h3
  · have : i = 0 := by omega
    subst this
    simp -implicitDefEqProofs (disch := first | assumption | exact id rfl | omega | (simp only [AHeap.alloc_n, AHeap.put_n, SV.put_n, AHeap.kill_n, ne_eq, List.length_cons, List.length_nil]; omega)) only [SXs, cond_true, cond_false, env0, List.getElem?_cons_zero, List.getElem?_cons_succ, Nat.reduceEqDiff, if_true, if_false, ↓reduceIte, Nat.reduceAdd, Nat.zero_add, Nat.add_zero, Nat.mul_one, reduceCtorEq, aop_ld, aop_ldn, bodyK_ret, bodyK_normal, resL, resV, Option.map_some, oneV, blockK_exit, seqK_exit, seqK_ret, blockK_ret, loopK_exit, loopK_ret, rs_i_heap_i_reached_put]
    exact ⟨s1, r, ⟨hb, ho, hs1b, hup.done fun h0 _ => absurd h0 (by omega)⟩, hperm, fun k h1 h2 h3 => ⟨hk k h1 h2 h3, hs1 k h1⟩⟩

theorem htake_rets {b : Nat} {s : SV} {q : PQ} {p : Int × Int} (h : HP H b s (p :: q)) (hlen : q.length ≤ 2 ^ 40) :
    Rets Go.Proofs.Try.prog w0 25 [pt b 0] H fun v H' => v = .agg (RQ.cs p).toArray ∧ ∃ s' q', HP H' b s' q' ∧ q'.Perm q ∧ ∀ k, k < H.n → k ≠ b → s.off k → H'.get k = H.get k ∧ s'.off k := by
  obtain ⟨hb, ho, hoff, hq⟩ := h
  have hl := enc_len ho.arr (by omega)
  rw [List.length_cons] at hl
  have hbl := AHeap.lt_of hb (by simp)
  have hslt := ho.lt
  refine rets_fun rfl cf_i_heap_i_reached_take (body_of ?_)
  have i0 : ∀ G : AHeap, iaO 2 (some s.v) (some (.int .i64 0)) G = some (s.p (0 * 2), G) := fun G => iaO_n (n := 0) (by omega)
  have il : ∀ G : AHeap, iaO 2 (some s.v) (some (iv q.length)) G = some (s.p (q.length * 2), G) := fun G => iaO_n (by omega)
  -- the result's cell and what is taken
  have h2 : ∃ G2 : AHeap, (((H.alloc (.cells [.int .i64 0, .int .i64 0] 49)).alloc (.cells [.int .i64 0, .int .i64 0] 49)).put (H.n + 1) 0 (RQ.cs p)) = G2 ∧ G2.n = H.n + 2 ∧ G2.get H.n = .cells [.int .i64 0, .int .i64 0] 49 ∧ G2.get (H.n + 1) = .cells (RQ.cs p) 49 ∧ (∀ k, k < H.n → G2.get k = H.get k) := by
    refine ⟨_, rfl, by rw [AHeap.put_n]; rfl, ?_, ?_, fun k hk => ?_⟩
    · simp -implicitDefEqProofs (disch := first | assumption | exact id rfl | omega | (simp only [AHeap.alloc_n, AHeap.put_n, SV.put_n, AHeap.kill_n, ne_eq, List.length_cons, List.length_nil]; omega)) only [HXs, Option.map_some, List.length_cons, List.length_nil, List.take_succ_cons, List.take_zero, List.drop_succ_cons, List.drop_zero, List.cons_append, List.nil_append]
    · simp -implicitDefEqProofs (disch := first | assumption | exact id rfl | omega | (simp only [AHeap.alloc_n, AHeap.put_n, SV.put_n, AHeap.kill_n, ne_eq, List.length_cons, List.length_nil]; omega)) only [HXs, Option.map_some, List.length_cons, List.length_nil, List.take_succ_cons, List.take_zero, List.drop_succ_cons, List.drop_zero, List.cons_append, List.nil_append]
    · rw [AHeap.put_ne (by omega), AHeap.alloc_ne _ _ (by simp; omega), AHeap.alloc_ne _ _ (by omega)]
  obtain ⟨G2, hG2, hn2, hr, hp2, hk2⟩ := h2
  have hE2 : Ext H G2 := ⟨by omega, hk2⟩
  have ho2 := ho.ext hE2
  simp -implicitDefEqProofs (disch := first | assumption | exact id rfl | omega | (simp only [AHeap.alloc_n, AHeap.put_n, SV.put_n, AHeap.kill_n, ne_eq, List.length_cons, List.length_nil]; omega)) only [i_heap_i_reached_take_0, i_heap_i_reached_take_1, i_heap_i_reached_take_2, i_heap_i_reached_take_3, SXs, cond_true, cond_false, env0, List.getElem?_cons_zero, List.getElem?_cons_succ, Nat.reduceEqDiff, if_true, if_false, ↓reduceIte, Nat.reduceAdd, Nat.zero_add, Nat.add_zero, Nat.mul_one, reduceCtorEq, ldO_at, AHeap.alloc_ne, hb, ldC_cells, Option.map_some, i0, ldnE (ho.alloc (o := .cells [.int .i64 0, .int .i64 0] 49)).arr (by omega) (j := 0) (x := p) rfl, AHeap.alloc_n, stO_at, alloc_at, stC_enc, hG2]
  have hb2 : G2.get b = .cells [s.v, LESS] 53 := by rw [hk2 _ hbl]; exact hb
  clear hG2
  obtain ⟨w, hw⟩ : ∃ w, (p :: q).getD q.length (0, 0) = w := ⟨_, rfl⟩
  have hw' : (p :: q)[q.length]? = some w := by rw [← hw]; exact getD_of (by simp)
  have e1 : ((q.length + 1 : Nat) : Int) - 1 = (q.length : Int) := by omega
  have hst := stE (x := w) ho2 (by omega) (j := 0) (by simp)
  have ho3 := putE (x := w) ho2 (j := 0) (by simp)
  have hcut := ho3.cutE (l := 0) (r := q.length) (by omega) (by omega)
  have hslc : slcO 49 2 (some s.v) (some none) (some (some (iv q.length))) (s.put G2 (0 * 2) (RQ.cs w)) = some ((s.cut 2 0 q.length).v, s.put G2 (0 * 2) (RQ.cs w)) := ho3.arr.slc (cut_hi (by omega))
  have hb3 : (s.put G2 (0 * 2) (RQ.cs w)).get b = .cells [s.v, LESS] 53 := by rw [SV.put_ne hoff]; exact hb2
  simp -implicitDefEqProofs (disch := first | assumption | exact id rfl | omega | (simp only [AHeap.alloc_n, AHeap.put_n, SV.put_n, AHeap.kill_n, ne_eq, List.length_cons, List.length_nil]; omega)) only [i_heap_i_reached_take_4, i_heap_i_reached_take_5, i_heap_i_reached_take_6, i_heap_i_reached_take_7, i_heap_i_reached_take_8, i_heap_i_reached_take_9, i_heap_i_reached_take_10, i_heap_i_reached_take_11, i_heap_i_reached_take_12, i_heap_i_reached_take_13, i_heap_i_reached_take_6, i_heap_i_reached_take_7, i_heap_i_reached_take_8, i_heap_i_reached_take_9, SXs, cond_true, cond_false, env0, List.getElem?_cons_zero, List.getElem?_cons_succ, Nat.reduceEqDiff, if_true, if_false, ↓reduceIte, Nat.reduceAdd, Nat.zero_add, Nat.add_zero, Nat.mul_one, reduceCtorEq, nilck_pt, ldO_at, hb2, hb3, ldC_cells, Option.map_some, hl, e1, il, i0, ldnE ho2.arr (by omega) hw', hst, hslc, stO_at, stC_s, List.length_cons, List.length_nil]
  rw [List.drop_zero, Nat.sub_zero] at hcut
  have hroot := DownOk.root hq
  rw [hw] at hroot
  have hb4 : ((s.put G2 (0 * 2) (RQ.cs w)).put b 0 [(s.cut 2 0 q.length).v]).get b = .cells [(s.cut 2 0 q.length).v, LESS] 53 := by rw [put_at, hb3]; simp only [putC_cells, splice_zero]
  have ho4 := hcut.put' (b := b) (off := 0) (vs := [(s.cut 2 0 q.length).v]) (SV.cut_off.2 hoff)
  have hoffn : ∀ k, H.n ≤ k → s.off k := fun k hk => SV.off_of_lt hslt hk
  have hr4 : ((s.put G2 (0 * 2) (RQ.cs w)).put b 0 [(s.cut 2 0 q.length).v]).get H.n = .cells [.int .i64 0, .int .i64 0] 49 := by rw [AHeap.put_ne (by omega), SV.put_ne (hoffn _ (by omega))]; exact hr
  have hp4 : ((s.put G2 (0 * 2) (RQ.cs w)).put b 0 [(s.cut 2 0 q.length).v]).get (H.n + 1) = .cells (RQ.cs p) 49 := by rw [AHeap.put_ne (by omega), SV.put_ne (hoffn _ (by omega))]; exact hp2
  have hk4 : ∀ k, k < H.n → k ≠ b → s.off k → ((s.put G2 (0 * 2) (RQ.cs w)).put b 0 [(s.cut 2 0 q.length).v]).get k = H.get k := fun k h1 h2 h3 => by rw [AHeap.put_ne h2, SV.put_ne h3]; exact hk2 k h1
  have hn4 : H.n + 2 ≤ ((s.put G2 (0 * 2) (RQ.cs w)).put b 0 [(s.cut 2 0 q.length).v]).n := by rw [AHeap.put_n, SV.put_n]; omega
  have hlr : (((p :: q).set 0 w).take q.length).length = q.length := by simp
  have hs1 : ∀ k, s.off k → (s.cut 2 0 q.length).off k := fun k hk => SV.cut_off.2 hk
  generalize (s.put G2 (0 * 2) (RQ.cs w)).put b 0 [(s.cut 2 0 q.length).v] = F at *
  generalize s.cut 2 0 q.length = s1 at *
  generalize ((p :: q).set 0 w).take q.length = r at *
  obtain ⟨hdown, hperm⟩ := hroot
  have hs1b := hs1 b hoff
  clear hb3 hcut hslc ho3 hst hw' hw hb2 ho2 hE2 hk2 hp2 hr hn2 G2 w e1 i0 il
  refine CW_inv (fun n e F => ∃ (i : Nat) (r : PQ), n + i = q.length ∧ r.length = q.length ∧ e 0 = some (pt b 0) ∧ e 2 = some (pt H.n 0) ∧ e 3 = some (pt (H.n + 1) 0) ∧ e 4 = some (iv q.length) ∧ e 5 = some (iv i) ∧ F.get b = .cells [s1.v, LESS] 53 ∧ Own F s1 49 2 (RQ.all r) ∧ F.get H.n = .cells [.int .i64 0, .int .i64 0] 49 ∧ F.get (H.n + 1) = .cells (RQ.cs p) 49 ∧ (∀ k, k < H.n → k ≠ b → s.off k → F.get k = H.get k) ∧ H.n + 2 ≤ F.n ∧ DownOk r i ∧ r.Perm q) q.length
    ⟨0, r, by omega, hlr, rfl, rfl, rfl, rfl, rfl, hb4, ho4, hr4, hp4, hk4, hn4, hdown, hperm⟩ ?_
  clear hb4 ho4 hr4 hp4 hk4 hn4 hdown hperm hlr
  clear F r
  rintro n e F ⟨i, r, hni, hlr, e0, e2, e3, e4, e5, hb4, ho4, hr4, hp4, hk4, hn4, hdown, hperm⟩
  have hls := enc_len ho4.arr (by omega)
  simp -implicitDefEqProofs (disch := first | assumption | exact id rfl | omega | (simp only [AHeap.alloc_n, AHeap.put_n, SV.put_n, AHeap.kill_n, ne_eq, List.length_cons, List.length_nil]; omega)) only [i_heap_i_reached_take_14, i_heap_i_reached_take_15, i_heap_i_reached_take_16, i_heap_i_reached_take_17, i_heap_i_reached_take_18, i_heap_i_reached_take_19, i_heap_i_reached_take_20, i_heap_i_reached_take_21, SXs, cond_true, cond_false, env0, List.getElem?_cons_zero, List.getElem?_cons_succ, Nat.reduceEqDiff, if_true, if_false, ↓reduceIte, Nat.reduceAdd, Nat.zero_add, Nat.add_zero, Nat.mul_one, reduceCtorEq, e5, bin_mul]
  refine CW_mid (fun e F' => ∃ bst : Nat, Ext F F' ∧ e 0 = some (pt b 0) ∧ e 2 = some (pt H.n 0) ∧ e 3 = some (pt (H.n + 1) 0) ∧ e 4 = some (iv q.length) ∧ e 5 = some (iv i) ∧ e 6 = some (iv bst) ∧ (bst = i ∨ (i < bst ∧ bst < r.length ∧ (bst - 1) / 2 = i ∧ pd r bst < pd r i)) ∧ pd r bst ≤ pd r i ∧ ∀ j, 0 < j → j < r.length → (j - 1) / 2 = i → pd r bst ≤ pd r j) ?_ ?_
  · refine CW_inv (fun n e F' => ∃ (k bst : Nat), n + k = 2 * i + 3 ∧ 2 * i + 1 ≤ k ∧ Ext F F' ∧ e 0 = some (pt b 0) ∧ e 2 = some (pt H.n 0) ∧ e 3 = some (pt (H.n + 1) 0) ∧ e 4 = some (iv q.length) ∧ e 5 = some (iv i) ∧ e 6 = some (iv bst) ∧ e 7 = some (iv k) ∧ (bst = i ∨ (i < bst ∧ bst < r.length ∧ (bst - 1) / 2 = i ∧ pd r bst < pd r i)) ∧ pd r bst ≤ pd r i ∧ ∀ j, 0 < j → j < k → j < r.length → (j - 1) / 2 = i → pd r bst ≤ pd r j) 2
      ⟨2 * i + 1, i, by omega, by omega, Ext.refl F, e0, e2, e3, e4, e5, rfl, ?_, .inl rfl, Int.le_refl _, fun j h1 h2 h3 h4 => by omega⟩ ?_
    · simp only [put_some, ↓reduceIte]; congr 2
    clear e0 e2 e3 e4 e5
    rintro m e F' ⟨k, bst, hmk, hk1, hE, e0, e2, e3, e4, e5, e6, e7, hbst, hle, hmin⟩
    simp -implicitDefEqProofs (disch := first | assumption | exact id rfl | omega | (simp only [AHeap.alloc_n, AHeap.put_n, SV.put_n, AHeap.kill_n, ne_eq, List.length_cons, List.length_nil]; omega)) only [i_heap_i_reached_take_22, i_heap_i_reached_take_23, i_heap_i_reached_take_24, i_heap_i_reached_take_25, CW_cond, SXs, cond_true, cond_false, env0, List.getElem?_cons_zero, List.getElem?_cons_succ, Nat.reduceEqDiff, if_true, if_false, ↓reduceIte, Nat.reduceAdd, Nat.zero_add, Nat.add_zero, Nat.mul_one, reduceCtorEq, e4, e5, e7, bin_mul]
    refine bool_split (fun h => ?_) (fun h => ?_) <;> simp only [decide_eq_true_eq, decide_eq_false_iff_not, bne_iff_ne, ne_eq, bne_eq_false_iff_eq, beq_iff_eq, beq_eq_false_iff_ne, Bool.not_eq_true, Bool.not_eq_eq_eq_not, Bool.not_true, Bool.not_false, Classical.not_not, Int.not_lt, Int.not_le] at h
    · simp -implicitDefEqProofs (disch := first | assumption | exact id rfl | omega | (simp only [AHeap.alloc_n, AHeap.put_n, SV.put_n, AHeap.kill_n, ne_eq, List.length_cons, List.length_nil]; omega)) only [i_heap_i_reached_take_22, i_heap_i_reached_take_23, i_heap_i_reached_take_24, i_heap_i_reached_take_25, CW_cond, SXs, cond_true, cond_false, env0, List.getElem?_cons_zero, List.getElem?_cons_succ, Nat.reduceEqDiff, if_true, if_false, ↓reduceIte, Nat.reduceAdd, Nat.zero_add, Nat.add_zero, Nat.mul_one, reduceCtorEq, e4, e5, e7, bin_mul]
      refine condK_of (fun h2 => ?_) (fun h2 => ?_) <;> simp only [decide_eq_true_eq, decide_eq_false_iff_not, bne_iff_ne, ne_eq, bne_eq_false_iff_eq, beq_iff_eq, beq_eq_false_iff_ne, Bool.not_eq_true, Bool.not_eq_eq_eq_not, Bool.not_true, Bool.not_false, Classical.not_not, Int.not_lt, Int.not_le] at h2
      · have hkr : k < r.length := by omega
        have hbr : bst < r.length := by omega
        have ho5 := ho4.ext hE
        have hb5 : F'.get b = .cells [s1.v, LESS] 53 := by rw [hE.2 _ (by omega)]; exact hb4
        simp -implicitDefEqProofs (disch := first | assumption | exact id rfl | omega | (simp only [AHeap.alloc_n, AHeap.put_n, SV.put_n, AHeap.kill_n, ne_eq, List.length_cons, List.length_nil]; omega)) only [i_heap_i_reached_take_26, i_heap_i_reached_take_27, i_heap_i_reached_take_28, i_heap_i_reached_take_29, i_heap_i_reached_take_30, CW_cond, SXs, cond_true, cond_false, env0, List.getElem?_cons_zero, List.getElem?_cons_succ, Nat.reduceEqDiff, if_true, if_false, ↓reduceIte, Nat.reduceAdd, Nat.zero_add, Nat.add_zero, Nat.mul_one, reduceCtorEq, e0, e6, e7, nilck_pt, ldO_at, hb5, ldC_cells, Option.map_some, ldnE ho5.arr (by omega) (getD_of hkr), ldnE ho5.arr (by omega) (getD_of hbr), callvK_func, less_able, true_and, List.append_nil, List.nil_append, List.toList_toArray]
        refine rless_rets.mono ?_
        rintro _ F2 _ ⟨rfl, hE2⟩
        have hE3 := hE.trans hE2
        refine condK_of (fun h3 => ?_) (fun h3 => ?_) <;> simp only [decide_eq_true_eq, decide_eq_false_iff_not, bne_iff_ne, ne_eq, bne_eq_false_iff_eq, beq_iff_eq, beq_eq_false_iff_ne, Bool.not_eq_true, Bool.not_eq_eq_eq_not, Bool.not_true, Bool.not_false, Classical.not_not, Int.not_lt, Int.not_le] at h3
        · have h3' : pd r k < pd r bst := h3
          simp -implicitDefEqProofs (disch := first | assumption | exact id rfl | omega | (simp only [AHeap.alloc_n, AHeap.put_n, SV.put_n, AHeap.kill_n, ne_eq, List.length_cons, List.length_nil]; omega)) only [i_heap_i_reached_take_31, i_heap_i_reached_take_32, SXs, cond_true, cond_false, env0, List.getElem?_cons_zero, List.getElem?_cons_succ, Nat.reduceEqDiff, if_true, if_false, ↓reduceIte, Nat.reduceAdd, Nat.zero_add, Nat.add_zero, Nat.mul_one, reduceCtorEq, e7]
          refine ⟨m - 1, by omega, k + 1, k, by omega, by omega, hE3, e0, e2, e3, e4, e5, rfl, rfl, .inr ⟨by omega, hkr, by omega, by omega⟩, by omega, fun j h4 h5 h6 h7 => ?_⟩
          by_cases hjk : j = k
          · subst hjk; exact Int.le_refl _
          · have := hmin j h4 (by omega) h6 h7; omega
        · have h3' : pd r bst ≤ pd r k := h3
          simp -implicitDefEqProofs (disch := first | assumption | exact id rfl | omega | (simp only [AHeap.alloc_n, AHeap.put_n, SV.put_n, AHeap.kill_n, ne_eq, List.length_cons, List.length_nil]; omega)) only [i_heap_i_reached_take_32, SXs, cond_true, cond_false, env0, List.getElem?_cons_zero, List.getElem?_cons_succ, Nat.reduceEqDiff, if_true, if_false, ↓reduceIte, Nat.reduceAdd, Nat.zero_add, Nat.add_zero, Nat.mul_one, reduceCtorEq, e7]
          refine ⟨m - 1, by omega, k + 1, bst, by omega, by omega, hE3, e0, e2, e3, e4, e5, e6, rfl, hbst, hle, fun j h4 h5 h6 h7 => ?_⟩
          by_cases hjk : j = k
          · subst hjk; exact h3'
          · exact hmin j h4 (by omega) h6 h7
      · exact ⟨bst, hE, (by first | trivial | assumption), (by first | trivial | assumption), (by first | trivial | assumption), (by first | trivial | assumption), (by first | trivial | assumption), (by first | trivial | assumption), hbst, hle, fun j h4 h5 h6 => hmin j h4 (by omega) h5 h6⟩
    · simp -implicitDefEqProofs (disch := first | assumption | exact id rfl | omega | (simp only [AHeap.alloc_n, AHeap.put_n, SV.put_n, AHeap.kill_n, ne_eq, List.length_cons, List.length_nil]; omega)) only [i_heap_i_reached_take_22, i_heap_i_reached_take_23, i_heap_i_reached_take_24, i_heap_i_reached_take_25, CW_cond, SXs, cond_true, cond_false, env0, List.getElem?_cons_zero, List.getElem?_cons_succ, Nat.reduceEqDiff, if_true, if_false, ↓reduceIte, Nat.reduceAdd, Nat.zero_add, Nat.add_zero, Nat.mul_one, reduceCtorEq, condK_false]
      exact ⟨bst, hE, (by first | trivial | assumption), (by first | trivial | assumption), (by first | trivial | assumption), (by first | trivial | assumption), (by first | trivial | assumption), (by first | trivial | assumption), hbst, hle, fun j h4 h5 h6 => hmin j h4 (by omega) h5 h6⟩
  · clear e0 e2 e3 e4 e5
    rintro e F' hFn ⟨bst, hE, e0, e2, e3, e4, e5, e6, hbst, hle, hmin⟩
    have ho5 := ho4.ext hE
    have hb5 : F'.get b = .cells [s1.v, LESS] 53 := by rw [hE.2 _ (by omega)]; exact hb4
    have hr5 : F'.get H.n = .cells [.int .i64 0, .int .i64 0] 49 := by rw [hE.2 _ (by omega)]; exact hr4
    have hp5 : F'.get (H.n + 1) = .cells (RQ.cs p) 49 := by rw [hE.2 _ (by omega)]; exact hp4
    have hk5 : ∀ k, k < H.n → k ≠ b → s.off k → F'.get k = H.get k := fun k h1 h2 h3 => by rw [hE.2 _ (by omega)]; exact hk4 k h1 h2 h3
    clear hb4 ho4 hr4 hp4 hk4
    simp -implicitDefEqProofs (disch := first | assumption | exact id rfl | omega | (simp only [AHeap.alloc_n, AHeap.put_n, SV.put_n, AHeap.kill_n, ne_eq, List.length_cons, List.length_nil]; omega)) only [i_heap_i_reached_take_33, i_heap_i_reached_take_34, i_heap_i_reached_take_35, i_heap_i_reached_take_36, CW_cond, SXs, cond_true, cond_false, env0, List.getElem?_cons_zero, List.getElem?_cons_succ, Nat.reduceEqDiff, if_true, if_false, ↓reduceIte, Nat.reduceAdd, Nat.zero_add, Nat.add_zero, Nat.mul_one, reduceCtorEq, e5, e6]
    refine condK_of (fun h => ?_) (fun h => ?_) <;> simp only [decide_eq_true_eq, decide_eq_false_iff_not, bne_iff_ne, ne_eq, bne_eq_false_iff_eq, beq_iff_eq, beq_eq_false_iff_ne, Bool.not_eq_true, Bool.not_eq_eq_eq_not, Bool.not_true, Bool.not_false, Classical.not_not, Int.not_lt, Int.not_le] at h
    · have hbi : bst = i := by omega
      subst hbi
      simp -implicitDefEqProofs (disch := first | assumption | exact id rfl | omega | (simp only [AHeap.alloc_n, AHeap.put_n, SV.put_n, AHeap.kill_n, ne_eq, List.length_cons, List.length_nil]; omega)) only [i_heap_i_reached_take_37, i_heap_i_reached_take_38, aop_ld, aop_ldn, bodyK_ret, bodyK_normal, resL, resV, Option.map_some, oneV, blockK_exit, seqK_exit, seqK_ret, blockK_ret, loopK_exit, loopK_ret, rs_i_heap_i_reached_take, SXs, cond_true, cond_false, env0, List.getElem?_cons_zero, List.getElem?_cons_succ, Nat.reduceEqDiff, if_true, if_false, ↓reduceIte, Nat.reduceAdd, Nat.zero_add, Nat.add_zero, Nat.mul_one, reduceCtorEq, HXs, Option.map_some, List.length_cons, List.length_nil, List.take_succ_cons, List.take_zero, List.drop_succ_cons, List.drop_zero, List.cons_append, List.nil_append, aop_ld, aop_ldn, bodyK_ret, bodyK_normal, resL, resV, Option.map_some, oneV, blockK_exit, seqK_exit, seqK_ret, blockK_ret, loopK_exit, loopK_ret, e2, e3, hp5, hr5]
      refine ⟨trivial, s1, r, ⟨?_, ho5.put' (hs1 _ (hoffn _ (by omega))), hs1b, hdown.done hmin⟩, hperm, fun k h1 h2 h3 => ⟨?_, hs1 k h3⟩⟩
      · rw [AHeap.put_ne (by omega)]; exact hb5
      · rw [AHeap.put_ne (by omega)]; exact hk5 k h1 h2 h3
    · rcases hbst with hbst | ⟨q1, q2, q3, q4⟩
      · exact absurd (by rw [hbst]) h
      have hir : i < r.length := by omega
      have hsw := stE (x := r.getD bst (0, 0)) ho5 (by omega) hir
      have ho6 := putE (x := r.getD bst (0, 0)) ho5 hir
      have hsw2 := stE (x := r.getD i (0, 0)) ho6 (by omega) (j := bst) (by simpa using q2)
      have ho7 := putE (x := r.getD i (0, 0)) ho6 (j := bst) (by simpa using q2)
      simp -implicitDefEqProofs (disch := first | assumption | exact id rfl | omega | (simp only [AHeap.alloc_n, AHeap.put_n, SV.put_n, AHeap.kill_n, ne_eq, List.length_cons, List.length_nil]; omega)) only [i_heap_i_reached_take_39, i_heap_i_reached_take_40, i_heap_i_reached_take_41, SXs, cond_true, cond_false, env0, List.getElem?_cons_zero, List.getElem?_cons_succ, Nat.reduceEqDiff, if_true, if_false, ↓reduceIte, Nat.reduceAdd, Nat.zero_add, Nat.add_zero, Nat.mul_one, reduceCtorEq, e0, e5, e6, nilck_pt, ldO_at, hb5, ldC_cells, Option.map_some, ldnE ho5.arr (by omega) (getD_of hir), ldnE ho5.arr (by omega) (getD_of q2), hsw, hsw2]
      refine ⟨q.length - bst, by omega, bst, swp r i bst, by omega, by rw [swp_len]; exact hlr, e0, e2, e3, e4, rfl, ?_, ho7, ?_, ?_, fun k h1 h2 h3 => ?_, by rw [SV.put_n, SV.put_n]; omega, hdown.step (by omega) q2 q3 q4 hmin, (swp_perm hir q2).trans hperm⟩
      · rw [SV.put_ne hs1b, SV.put_ne hs1b]; exact hb5
      · rw [SV.put_ne (hs1 _ (hoffn _ (by omega))), SV.put_ne (hs1 _ (hoffn _ (by omega)))]; exact hr5
      · rw [SV.put_ne (hs1 _ (hoffn _ (by omega))), SV.put_ne (hs1 _ (hoffn _ (by omega)))]; exact hp5
      · rw [SV.put_ne (hs1 _ h3), SV.put_ne (hs1 _ h3)]; exact hk5 k h1 h2 h3
end Go.AB
