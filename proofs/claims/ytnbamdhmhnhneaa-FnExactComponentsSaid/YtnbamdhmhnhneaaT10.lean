/- Routes, as the implementation finds them. -/
import Derived.Test.YtnbamdhmhnhneaaT7
import Derived.Test.YtnbamdhmhnhneaaT8
import Derived.Test.YtnbamdhmhnhneaaT9
set_option linter.unusedVariables false
set_option linter.unusedSimpArgs false
set_option maxRecDepth 10000
set_option maxHeartbeats 2000000
namespace Go.AB
open Go.Proofs
variable {w0 : World} {H : AHeap}

theorem CW_midq {P : Program} {e : Env} {a : AC} {Q : AX → Env → AHeap → Prop} {id : Nat} (M : Env → AHeap → Prop) (h1 : CW P w0 a e H (midK id M Q)) (h2 : ∀ e' H', H.n ≤ H'.n → M e' H' → Q .normal e' H') : CW P w0 a e H (blockK id Q) := by
  refine CW_mono h1 fun x e' H' hn hx => ?_
  cases x with
  | normal => exact hx.elim
  | ret => exact hx
  | exit i =>
    rw [blockK_exit]
    rw [midK_exit] at hx
    split
    · rename_i h; rw [if_pos h] at hx; exact h2 _ _ hn hx
    · rename_i h; rw [if_neg h] at hx; exact hx
/-- What a route is. -/
def RouteIs (x : GD) (t : Int) (ds hs : List Int) (c : Int) : Prop :=
  (x.Ok ∧ 0 ≤ t ∧ t < x.n ∧ c = 0 ∧ ∃ es, x.Edges es ∧ DistOk es x.n.toNat t.toNat ds ∧ HopOk es x.n.toNat t.toNat ds hs) ∨ (¬ (x.Ok ∧ 0 ≤ t ∧ t < x.n) ∧ c = 1 ∧ ds = [] ∧ hs = [])
theorem RouteIs.uniq {x : GD} {t c c' : Int} {ds ds' hs hs' : List Int} (h : RouteIs x t ds hs c) (h' : RouteIs x t ds' hs' c') : ds = ds' ∧ hs = hs' ∧ c = c' := by
  rcases h with ⟨ok, h0, h1, rfl, es, he, hd, hh⟩ | ⟨hn, rfl, rfl, rfl⟩
  · rcases h' with ⟨-, -, -, rfl, es', he', hd', hh'⟩ | ⟨hn, -⟩
    · have := Edges.uniq ok he he'
      subst this
      have hu := DistOk.uniq (edges_ok ok he).1 (by omega) hd hd'
      subst hu
      exact ⟨rfl, hh.uniq hh', rfl⟩
    · exact absurd ⟨ok, h0, h1⟩ hn
  · rcases h' with ⟨ok, h0, h1, -⟩ | ⟨-, rfl, rfl, rfl⟩
    · exact absurd ⟨ok, h0, h1⟩ hn
    · exact ⟨rfl, rfl, rfl⟩
def RouteRes (H H' : AHeap) (v : Value) (x : GD) (t : Int) : Prop :=
  ∃ (a b : SV) (ds hs : List Int) (c : Int), v = .tuple #[a.v, b.v, iv c] ∧ IOwn H' a ds ∧ IOwn H' b hs ∧ a.apart b ∧ Ext H H' ∧ (∀ k, k < H.n → a.off k ∧ b.off k) ∧ RouteIs x t ds hs c
theorem HopOk.skips {es l : List E4} {N t : Nat} {ds hs : List Int} (h : HopOk es N t ds hs) (hl : ∀ e ∈ l, ∀ u, ¬ good t ds u e) : HopOk (es ++ l) N t ds hs := by
  induction l generalizing es with
  | nil => rwa [List.append_nil]
  | cons e l ih =>
    have := ih (h.skip (hl e (by simp))) fun e' he' => hl e' (by simp [he'])
    simpa using this
theorem HP.ext {H' : AHeap} {b : Nat} {s : SV} {q : PQ} (h : HP H b s q) (k : Ext H H') : HP H' b s q :=
  ⟨by rw [k.2 b (AHeap.lt_of h.at' (by simp))]; exact h.at', h.own.ext k, h.off, h.ok⟩
/-- The edges of one cell of a graph, in its lists. -/
theorem gOf_row {er : List E4} {N c j : Nat} {e : E4} (hc : c < N) (he : (rowE er c)[j]? = some e) :
    (gOf N er).t.getD ((rowsE er c).length + j) 0 = e.t ∧ (gOf N er).c.getD ((rowsE er c).length + j) 0 = e.c ∧ (rowsE er c).length + j < (gOf N er).t.length ∧ (rowsE er c).length + j < (gOf N er).c.length := by
  have hj := (List.getElem?_eq_some_iff.1 he).1
  have h1 := rowsE_get hc hj
  rw [he] at h1
  have h2 := (List.getElem?_eq_some_iff.1 h1).1
  refine ⟨getD_map (f := E4.t) h1, getD_map (f := E4.c) h1, by simpa [gOf] using h2, by simpa [gOf] using h2⟩

theorem src_ex {x : GD} (ok : x.Ok) (k : Nat) : ∃ c : Nat, k < x.t.length → ((c : Int) < x.n ∧ x.s.getD c 0 ≤ k ∧ (k : Int) < x.s.getD (c + 1) 0) := by
  by_cases hk : k < x.t.length
  · have key : ∀ v : Nat, (v : Int) ≤ x.n → (k : Int) < x.s.getD v 0 → ∃ c : Nat, c < v ∧ x.s.getD c 0 ≤ k ∧ (k : Int) < x.s.getD (c + 1) 0 := by
      intro v
      induction v with
      | zero => intro _ h; have := ok.s0; omega
      | succ v ih =>
        intro hv h
        by_cases h2 : (k : Int) < x.s.getD v 0
        · obtain ⟨c, h3, h4⟩ := ih (by omega) h2
          exact ⟨c, by omega, h4⟩
        · exact ⟨v, by omega, by omega, h⟩
    obtain ⟨c, h1, h2⟩ := key x.n.toNat (by have := ok.n; omega) (by have := ok.t; omega)
    exact ⟨c, fun _ => ⟨by have := ok.n; omega, h2⟩⟩
  · exact ⟨0, fun h => absurd h hk⟩
theorem edges_ex {x : GD} (ok : x.Ok) : ∃ es, x.Edges es := by
  refine ⟨(List.range x.t.length).map fun k => ⟨((Classical.choose (src_ex ok k) : Nat) : Int), x.t.getD k 0, x.d.getD k 0, x.c.getD k 0⟩, by simp, fun k hk => ?_⟩
  have h := Classical.choose_spec (src_ex ok k) hk
  exact ⟨_, h.1, h.2.1, h.2.2, by simp [hk]⟩

theorem HeapOk.min {p : Int × Int} {q : PQ} (h : HeapOk (p :: q)) : ∀ p' ∈ q, p.2 ≤ p'.2 := fun p' hp' => by
  obtain ⟨i, hi, rfl⟩ := List.getElem_of_mem hp'
  have := h.root (i + 1) (by simpa using hi)
  simpa [pd, hi] using this

theorem implRoute_rets {g : GV} {x : GD} {t : Int} (hg : GArr H g x) (hx : x.size ≤ 2 ^ 60) : Rets Go.Proofs.Try.prog w0 8 [g.v, iv t] H fun v H' => RouteRes H H' v x t := by
  refine rets_fun rfl cf_i_Route (body_of ?_)
  have hE0 : Ext H (H.alloc (.cells g.cs 28)) := Ext.alloc _ _
  have hb0 : (H.alloc (.cells g.cs 28)).get H.n = .cells g.cs 28 := AHeap.alloc_self _ _
  have hn0 : (H.alloc (.cells g.cs 28)).n = H.n + 1 := rfl
  simp -implicitDefEqProofs (disch := first | assumption | exact id rfl | omega | (simp only [AHeap.alloc_n, AHeap.put_n, SV.put_n, AHeap.kill_n, ne_eq, List.length_cons, List.length_nil]; omega)) only [i_Route_0, i_Route_1, SXs, cond_true, cond_false, env0, List.getElem?_cons_zero, List.getElem?_cons_succ, Nat.reduceEqDiff, if_true, if_false, ↓reduceIte, Nat.reduceAdd, Nat.zero_add, Nat.add_zero, Nat.mul_one, reduceCtorEq, boxO_agg]
  generalize H.alloc (.cells g.cs 28) = G0 at *
  simp -implicitDefEqProofs (disch := first | assumption | exact id rfl | omega | (simp only [AHeap.alloc_n, AHeap.put_n, SV.put_n, AHeap.kill_n, ne_eq, List.length_cons, List.length_nil]; omega)) only [i_Route_2, i_Route_3, i_Route_4, i_Route_5, CW_cond, SXs, cond_true, cond_false, env0, List.getElem?_cons_zero, List.getElem?_cons_succ, Nat.reduceEqDiff, if_true, if_false, ↓reduceIte, Nat.reduceAdd, Nat.zero_add, Nat.add_zero, Nat.mul_one, reduceCtorEq, ldnO_at, hb0, ldnC_cells, gv_seg, Option.map_some]
  refine (implValidGraph_rets (hg.ext hE0) hx).mono ?_
  rintro _ G1 hn1 ⟨⟨bb, rfl, hbb⟩, hE1⟩
  have hE := hE0.trans hE1
  have hb : G1.get H.n = .cells g.cs 28 := by rw [hE1.2 _ (by omega)]; exact hb0
  rw [hn0] at hn1
  clear hE0 hE1 hb0 hn0
  have bad : ¬ (x.Ok ∧ 0 ≤ t ∧ t < x.n) → ∀ G, Ext H G → RouteRes H G (.tuple #[.slice none 0 0, .slice none 0 0, iv 1]) x t := fun hn G hG =>
    ⟨.nil, .nil, [], [], 1, rfl, Own.nil, Own.nil, fun _ => .inl trivial, hG, fun _ _ => ⟨trivial, trivial⟩, .inr ⟨hn, rfl, rfl, rfl⟩⟩
  by_cases ok : x.Ok
  case neg =>
    have : bb = false := by cases bb with
      | false => rfl
      | true => exact absurd (hbb.1 rfl) ok
    subst this
    simp -implicitDefEqProofs (disch := first | assumption | exact id rfl | omega | (simp only [AHeap.alloc_n, AHeap.put_n, SV.put_n, AHeap.kill_n, ne_eq, List.length_cons, List.length_nil]; omega)) only [SXs, cond_true, cond_false, env0, List.getElem?_cons_zero, List.getElem?_cons_succ, Nat.reduceEqDiff, if_true, if_false, ↓reduceIte, Nat.reduceAdd, Nat.zero_add, Nat.add_zero, Nat.mul_one, reduceCtorEq, Bool.not_false, condK_true, i_Route_6, i_Route_7, aop_ld, aop_ldn, bodyK_ret, bodyK_normal, resL, resV, Option.map_some, oneV, blockK_exit, seqK_exit, seqK_ret, blockK_ret, loopK_exit, loopK_ret, rs_i_Route, aop_ld, aop_ldn, bodyK_ret, bodyK_normal, resL, resV, Option.map_some, oneV, blockK_exit, seqK_exit, seqK_ret, blockK_ret, loopK_exit, loopK_ret]
    exact bad (fun h => ok h.1) _ hE
  have : bb = true := hbb.2 ok
  subst this
  simp -implicitDefEqProofs (disch := first | assumption | exact id rfl | omega | (simp only [AHeap.alloc_n, AHeap.put_n, SV.put_n, AHeap.kill_n, ne_eq, List.length_cons, List.length_nil]; omega)) only [SXs, cond_true, cond_false, env0, List.getElem?_cons_zero, List.getElem?_cons_succ, Nat.reduceEqDiff, if_true, if_false, ↓reduceIte, Nat.reduceAdd, Nat.zero_add, Nat.add_zero, Nat.mul_one, reduceCtorEq, Bool.not_true]
  refine bool_split (fun h => ?_) (fun h => ?_) <;> simp only [decide_eq_true_eq, decide_eq_false_iff_not, bne_iff_ne, ne_eq, bne_eq_false_iff_eq, beq_iff_eq, beq_eq_false_iff_ne, Bool.not_eq_true, Bool.not_eq_eq_eq_not, Bool.not_true, Bool.not_false, Classical.not_not, Int.not_lt, Int.not_le] at h
  · simp -implicitDefEqProofs (disch := first | assumption | exact id rfl | omega | (simp only [AHeap.alloc_n, AHeap.put_n, SV.put_n, AHeap.kill_n, ne_eq, List.length_cons, List.length_nil]; omega)) only [SXs, cond_true, cond_false, env0, List.getElem?_cons_zero, List.getElem?_cons_succ, Nat.reduceEqDiff, if_true, if_false, ↓reduceIte, Nat.reduceAdd, Nat.zero_add, Nat.add_zero, Nat.mul_one, reduceCtorEq, condK_true, i_Route_6, i_Route_7, aop_ld, aop_ldn, bodyK_ret, bodyK_normal, resL, resV, Option.map_some, oneV, blockK_exit, seqK_exit, seqK_ret, blockK_ret, loopK_exit, loopK_ret, rs_i_Route, aop_ld, aop_ldn, bodyK_ret, bodyK_normal, resL, resV, Option.map_some, oneV, blockK_exit, seqK_exit, seqK_ret, blockK_ret, loopK_exit, loopK_ret]
    exact bad (fun h => by omega) _ hE
  have hgn := hg.n
  simp -implicitDefEqProofs (disch := first | assumption | exact id rfl | omega | (simp only [AHeap.alloc_n, AHeap.put_n, SV.put_n, AHeap.kill_n, ne_eq, List.length_cons, List.length_nil]; omega)) only [SXs, cond_true, cond_false, env0, List.getElem?_cons_zero, List.getElem?_cons_succ, Nat.reduceEqDiff, if_true, if_false, ↓reduceIte, Nat.reduceAdd, Nat.zero_add, Nat.add_zero, Nat.mul_one, reduceCtorEq, ldO_at, hb, ldC_cells, GV.get0, Option.map_some]
  refine condK_of (fun h2 => ?_) (fun h2 => ?_) <;> simp only [decide_eq_true_eq, decide_eq_false_iff_not, bne_iff_ne, ne_eq, bne_eq_false_iff_eq, beq_iff_eq, beq_eq_false_iff_ne, Bool.not_eq_true, Bool.not_eq_eq_eq_not, Bool.not_true, Bool.not_false, Classical.not_not, Int.not_lt, Int.not_le] at h2
  · simp -implicitDefEqProofs (disch := first | assumption | exact id rfl | omega | (simp only [AHeap.alloc_n, AHeap.put_n, SV.put_n, AHeap.kill_n, ne_eq, List.length_cons, List.length_nil]; omega)) only [i_Route_6, i_Route_7, aop_ld, aop_ldn, bodyK_ret, bodyK_normal, resL, resV, Option.map_some, oneV, blockK_exit, seqK_exit, seqK_ret, blockK_ret, loopK_exit, loopK_ret, rs_i_Route, SXs, cond_true, cond_false, env0, List.getElem?_cons_zero, List.getElem?_cons_succ, Nat.reduceEqDiff, if_true, if_false, ↓reduceIte, Nat.reduceAdd, Nat.zero_add, Nat.add_zero, Nat.mul_one, reduceCtorEq, aop_ld, aop_ldn, bodyK_ret, bodyK_normal, resL, resV, Option.map_some, oneV, blockK_exit, seqK_exit, seqK_ret, blockK_ret, loopK_exit, loopK_ret]
    exact bad (fun h => by omega) _ hE
  obtain ⟨N, hN⟩ : ∃ N : Nat, x.n = N := ⟨x.n.toNat, by have := ok.n; omega⟩
  have hN' : x.n.toNat = N := by omega
  obtain ⟨T, rfl⟩ : ∃ T : Nat, t = T := ⟨t.toNat, by omega⟩
  have hTN : T < N := by omega
  rw [hN] at hgn
  have o_n := ok.n
  rw [hN] at o_n
  obtain ⟨es, hes⟩ := edges_ex ok
  have ⟨eok, elen⟩ := edges_ok ok hes
  rw [hN'] at eok
  obtain ⟨er, her⟩ : ∃ er, er = es.map E4.rev := ⟨_, rfl⟩
  have rok : EsOk er N := her ▸ rev_ok eok
  have rlen : er.length ≤ 6400 := by rw [her]; simpa using elen
  have yok : (gOf N er).Ok := gOf_ok rok ⟨by omega, by omega⟩ rlen
  have hrb : ∀ v, v ≤ N → (rowsE er v).length ≤ 6400 := fun v hv => by have := rowsE_mono (es := er) hv; rw [rowsE_len rok.f] at this; omega
  -- the edges turned around
  simp -implicitDefEqProofs (disch := first | assumption | exact id rfl | omega | (simp only [AHeap.alloc_n, AHeap.put_n, SV.put_n, AHeap.kill_n, ne_eq, List.length_cons, List.length_nil]; omega)) only [i_Route_8, i_Route_9, i_Route_10, i_Route_11, i_Route_12, i_Route_13, i_Route_14, i_Route_15, i_Route_16, i_Route_17, i_Route_18, SXs, cond_true, cond_false, env0, List.getElem?_cons_zero, List.getElem?_cons_succ, Nat.reduceEqDiff, if_true, if_false, ↓reduceIte, Nat.reduceAdd, Nat.zero_add, Nat.add_zero, Nat.mul_one, reduceCtorEq, ldnO_at, hb, ldnC_cells, gv_seg, Option.map_some]
  refine (implReverse_rets (hg.ext hE) ok hes).mono ?_
  rintro _ G2 hn2 ⟨g', rfl, hy, hE2, hyo⟩
  rw [hN', ← her] at hy
  have x0 : ∀ G : AHeap, extO 0 G (some (.tuple #[g'.v, iv 0])) = some (g'.v, G) := fun G => rfl
  have x1 : ∀ G : AHeap, extO 1 G (some (.tuple #[g'.v, iv 0])) = some (iv 0, G) := fun G => rfl
  have hst : ∀ (G' : AHeap) (b : Nat) (w : GV), stC 5 G' b (.cells [.int .i64 0, .slice none 0 0, .slice none 0 0, .slice none 0 0, .slice none 0 0] 28) 0 (.agg w.cs.toArray) = some (.tuple #[], G'.put b 0 w.cs) := fun G' b w => stC_agg (by simp [GV.cs_len]) (by simp)
  have hq3 : ((G2.alloc (.cells [.int .i64 0, .slice none 0 0, .slice none 0 0, .slice none 0 0, .slice none 0 0] 28)).put G2.n 0 g'.cs).get G2.n = .cells g'.cs 28 := by
    rw [put_at, AHeap.alloc_self]; simp only [putC_cells]; congr 1
  have hE3 : Ext G2 ((G2.alloc (.cells [.int .i64 0, .slice none 0 0, .slice none 0 0, .slice none 0 0, .slice none 0 0] 28)).put G2.n 0 g'.cs) := ((Ext.refl G2).allocs _).put (Nat.le_refl _)
  have hn3 : ((G2.alloc (.cells [.int .i64 0, .slice none 0 0, .slice none 0 0, .slice none 0 0, .slice none 0 0] 28)).put G2.n 0 g'.cs).n = G2.n + 1 := by rw [AHeap.put_n]; rfl
  have hlt2 : H.n < G2.n := by omega
  simp -implicitDefEqProofs (disch := first | assumption | exact id rfl | omega | (simp only [AHeap.alloc_n, AHeap.put_n, SV.put_n, AHeap.kill_n, ne_eq, List.length_cons, List.length_nil]; omega)) only [i_Route_10, i_Route_11, i_Route_12, i_Route_13, i_Route_14, i_Route_15, i_Route_16, i_Route_17, i_Route_18, SXs, cond_true, cond_false, env0, List.getElem?_cons_zero, List.getElem?_cons_succ, Nat.reduceEqDiff, if_true, if_false, ↓reduceIte, Nat.reduceAdd, Nat.zero_add, Nat.add_zero, Nat.mul_one, reduceCtorEq, x0, x1, stO_at, alloc_at, hst]
  generalize (G2.alloc (.cells [.int .i64 0, .slice none 0 0, .slice none 0 0, .slice none 0 0, .slice none 0 0] 28)).put G2.n 0 g'.cs = G3 at *
  have hbR : (G3.alloc (.cells [iv (-1)] 3)).get H.n = .cells g.cs 28 := by rw [AHeap.alloc_ne _ _ (by omega), hE3.2 _ (by omega), hE2.2 _ (by omega)]; exact hb
  have hqR : (G3.alloc (.cells [iv (-1)] 3)).get G2.n = .cells g'.cs 28 := by rw [AHeap.alloc_ne _ _ (by omega)]; exact hq3
  have hyR : GOwn (G3.alloc (.cells [iv (-1)] 3)) g' (gOf N er) := (hy.ext hE3).ext (Ext.alloc _ _)
  have hER : Ext H (G3.alloc (.cells [iv (-1)] 3)) := ((hE.trans hE2).trans hE3).allocs _
  have hnR : (G3.alloc (.cells [iv (-1)] 3)).n = G2.n + 2 := by rw [AHeap.alloc_n, hn3]
  have hm1 : IArr (G3.alloc (.cells [iv (-1)] 3)) (.at G3.n 0 1) [-1] := (Own.new (cs := ints [-1]) (by simp [ints])).arr
  simp -implicitDefEqProofs (disch := first | assumption | exact id rfl | omega | (simp only [AHeap.alloc_n, AHeap.put_n, SV.put_n, AHeap.kill_n, ne_eq, List.length_cons, List.length_nil]; omega)) only [SXs, cond_true, cond_false, env0, List.getElem?_cons_zero, List.getElem?_cons_succ, Nat.reduceEqDiff, if_true, if_false, ↓reduceIte, Nat.reduceAdd, Nat.zero_add, Nat.add_zero, Nat.mul_one, reduceCtorEq, mk_int, ldO_at, hbR, ldC_cells, GV.get0, hgn, Option.map_some]
  generalize G3.alloc (.cells [iv (-1)] 3) = R at *
  refine (repeat_rets hm1 (by omega)).mono ?_
  rintro _ G4 hn4 ⟨rfl, hdo, hE4⟩
  have hbl : ∀ (n : FuncId) (G : AHeap), buildO [.slice none 0 0, .nilFunc] [(0, 1), (1, 1)] (some [(1, .func (.func n) #[] #[])]) G = some (.agg [.slice none 0 0, .func (.func n) #[] #[]].toArray, G) := fun n G => rfl
  have hE5 := Ext.alloc G4 (.cells [.slice none 0 0, LESS] 53)
  have hp5 : HP (G4.alloc (.cells [.slice none 0 0, LESS] 53)) G4.n .nil [] := ⟨AHeap.alloc_self _ _, Own.nil, trivial, fun i _ hi => by simp at hi⟩
  simp -implicitDefEqProofs (disch := first | assumption | exact id rfl | omega | (simp only [AHeap.alloc_n, AHeap.put_n, SV.put_n, AHeap.kill_n, ne_eq, List.length_cons, List.length_nil]; omega)) only [SXs, cond_true, cond_false, env0, List.getElem?_cons_zero, List.getElem?_cons_succ, Nat.reduceEqDiff, if_true, if_false, ↓reduceIte, Nat.reduceAdd, Nat.zero_add, Nat.add_zero, Nat.mul_one, reduceCtorEq, hbl, boxO_agg]
  have hdo5 := hdo.ext hE5
  have hER5 := hE4.trans hE5
  have hRn : R.n < G4.n := hdo.lt
  have hn5 : (G4.alloc (.cells [.slice none 0 0, LESS] 53)).n = G4.n + 1 := rfl
  generalize G4.alloc (.cells [.slice none 0 0, LESS] 53) = G5 at *
  have rb : ∀ (a b : Int) (G : AHeap), buildO [.int .i64 0, .int .i64 0] [(0, 1), (1, 1)] (some [(0, iv a), (1, iv b)]) G = some (.agg (RQ.cs (a, b)).toArray, G) := fun a b G => rfl
  simp -implicitDefEqProofs (disch := first | assumption | exact id rfl | omega | (simp only [AHeap.alloc_n, AHeap.put_n, SV.put_n, AHeap.kill_n, ne_eq, List.length_cons, List.length_nil]; omega)) only [SXs, cond_true, cond_false, env0, List.getElem?_cons_zero, List.getElem?_cons_succ, Nat.reduceEqDiff, if_true, if_false, ↓reduceIte, Nat.reduceAdd, Nat.zero_add, Nat.add_zero, Nat.mul_one, reduceCtorEq, rb]
  refine (hput_rets (p := ((T : Int), (0 : Int))) hp5 (by simp)).mono ?_
  rintro _ G6 hn6 ⟨sh, q, hp, hqp, hk6⟩
  have hE6 : Ext R G6 := ⟨by omega, fun b hb => by rw [(hk6 b (by omega) (by omega) trivial).1, hER5.2 b hb]⟩
  have hd6 : IOwn G6 (.at R.n 0 N) (List.replicate N (-1)) := hdo5.keep fun b hb => by
    have : b = R.n := by simp only [SV.off, ne_eq, Decidable.not_not] at hb; exact hb.symm
    exact (hk6 b (by omega) (by omega) trivial).1
  have hs6 : ∀ k, k ≤ R.n → sh.off k := fun k hk => (hk6 k (by omega) (by omega) trivial).2
  have hqm : ∀ p, p ∈ q ↔ p ∈ [((T : Int), (0 : Int))] := fun p => hqp.mem_iff
  have near : Near es N T (List.replicate N (-1)) q := (Near.begin eok hTN (by simp) (fun u hu => by simp [List.getD_eq_getElem?_getD, hu])).perm hqm
  have hql : q.length = 1 := hqp.length_eq
  clear hk6 hqp hqm hp5 hdo5 hdo hER5 hE5 hbl hm1 hst x0 x1 hq3 hy
  refine CW_mid (fun e G => ∃ ds, e 1 = some (iv T) ∧ e 2 = some (pt H.n 0) ∧ e 9 = some (SV.at R.n 0 N).v ∧ Ext R G ∧ R.n < G.n ∧ IOwn G (.at R.n 0 N) ds ∧ DistOk es N T ds ∧ ∀ u, u < N → ds.getD u 0 ≤ 14400) ?_ ?_
  · refine CW_inv (fun n e G => ∃ (ds : List Int) (sh : SV) (q : PQ), n = (N - cnt ds) * 7000 + q.length ∧ e 1 = some (iv T) ∧ e 2 = some (pt H.n 0) ∧ e 7 = some (pt G2.n 0) ∧ e 9 = some (SV.at R.n 0 N).v ∧ e 10 = some (pt G4.n 0) ∧ Ext R G ∧ R.n < G.n ∧ IOwn G (.at R.n 0 N) ds ∧ HP G G4.n sh q ∧ (∀ k, k ≤ R.n → sh.off k) ∧ Near es N T ds q ∧ q.length ≤ 1 + 6400 * cnt ds ∧ ∀ u, u < N → ds.getD u 0 ≤ 9 * cnt ds) _
      ⟨_, sh, q, rfl, rfl, rfl, rfl, rfl, rfl, hE6, by omega, hd6, hp, hs6, near, by omega, fun u hu => by simp [List.getD_eq_getElem?_getD, hu]; omega⟩ ?_
    clear near hs6 hd6 hE6 hp hql hn6
    clear sh q G6
    rintro n e G ⟨ds, sh, q, hn, e1, e2, e7, e9, e10, hE6, hRG, hd, hp, hs, near, hql, hbd⟩
    have hsl := enc_len hp.own.arr (by omega)
    simp -implicitDefEqProofs (disch := first | assumption | exact id rfl | omega | (simp only [AHeap.alloc_n, AHeap.put_n, SV.put_n, AHeap.kill_n, ne_eq, List.length_cons, List.length_nil]; omega)) only [i_Route_19, i_Route_20, i_Route_21, i_Route_22, CW_cond, SXs, cond_true, cond_false, env0, List.getElem?_cons_zero, List.getElem?_cons_succ, Nat.reduceEqDiff, if_true, if_false, ↓reduceIte, Nat.reduceAdd, Nat.zero_add, Nat.add_zero, Nat.mul_one, reduceCtorEq, e10, nilck_pt, ldO_at, hp.at', ldC_cells, Option.map_some]
    refine condK_of (fun h3 => ?_) (fun h3 => ?_) <;> simp only [decide_eq_true_eq, decide_eq_false_iff_not, bne_iff_ne, ne_eq, bne_eq_false_iff_eq, beq_iff_eq, beq_eq_false_iff_ne, Bool.not_eq_true, Bool.not_eq_eq_eq_not, Bool.not_true, Bool.not_false, Classical.not_not, Int.not_lt, Int.not_le] at h3
    · obtain ⟨p, q0, rfl⟩ : ∃ p q0, q = p :: q0 := by cases q with
        | nil => simp at hsl; omega
        | cons p q0 => exact ⟨p, q0, rfl⟩
      have hcn := cnt_le ds
      rw [near.len] at hcn
      simp only [List.length_cons] at hql hn
      simp -implicitDefEqProofs (disch := first | assumption | exact id rfl | omega | (simp only [AHeap.alloc_n, AHeap.put_n, SV.put_n, AHeap.kill_n, ne_eq, List.length_cons, List.length_nil]; omega)) only [i_Route_23, i_Route_24, i_Route_25, i_Route_26, i_Route_27, i_Route_28, i_Route_29, CW_cond, SXs, cond_true, cond_false, env0, List.getElem?_cons_zero, List.getElem?_cons_succ, Nat.reduceEqDiff, if_true, if_false, ↓reduceIte, Nat.reduceAdd, Nat.zero_add, Nat.add_zero, Nat.mul_one, reduceCtorEq, e10]
      refine (htake_rets hp (by omega)).mono ?_
      rintro _ G7 hn7 ⟨rfl, sh1, q1, hp1, hq1, hk1⟩
      have hG4G : G4.n < G.n := AHeap.lt_of hp.at' (by simp)
      have hE7 : Ext R G7 := ⟨by omega, fun b hb => by rw [(hk1 b (by omega) (by omega) (hs b (by omega))).1, hE6.2 b hb]⟩
      have hd7 : IOwn G7 (.at R.n 0 N) ds := hd.keep fun b hb => by
        have : b = R.n := by simp only [SV.off, ne_eq, Decidable.not_not] at hb; exact hb.symm
        exact (hk1 b (by omega) (by omega) (hs b (by omega))).1
      have hs7 : ∀ k, k ≤ R.n → sh1.off k := fun k hk => (hk1 k (by omega) (by omega) (hs k hk)).2
      have hE8 : Ext G7 ((G7.alloc (.cells [.int .i64 0, .int .i64 0] 49)).put G7.n 0 (RQ.cs p)) := ((Ext.refl G7).allocs _).put (Nat.le_refl _)
      have hr8 : ((G7.alloc (.cells [.int .i64 0, .int .i64 0] 49)).put G7.n 0 (RQ.cs p)).get G7.n = .cells (RQ.cs p) 49 := by
        rw [put_at, AHeap.alloc_self]; rfl
      have hn8 : ((G7.alloc (.cells [.int .i64 0, .int .i64 0] 49)).put G7.n 0 (RQ.cs p)).n = G7.n + 1 := by rw [AHeap.put_n]; rfl
      have st8 : ∀ (G' : AHeap) (b : Nat), stC 2 G' b (.cells [.int .i64 0, .int .i64 0] 49) 0 (.agg (RQ.cs p).toArray) = some (.tuple #[], G'.put b 0 (RQ.cs p)) := fun G' b => stC_enc (by simp)
      obtain ⟨⟨hc0, hcN⟩, hp2, hp3⟩ := near.cell p (by simp)
      obtain ⟨c, hc⟩ : ∃ c : Nat, p.1 = c := ⟨p.1.toNat, by omega⟩
      have rq0 : (RQ.cs p)[0]? = some (iv c) := by rw [RQ0, hc]
      have hp8 := hp1.ext hE8
      have hd8 := hd7.ext hE8
      have hER8 := hE7.trans hE8
      have hdl := near.len
      simp -implicitDefEqProofs (disch := first | assumption | exact id rfl | omega | (simp only [AHeap.alloc_n, AHeap.put_n, SV.put_n, AHeap.kill_n, ne_eq, List.length_cons, List.length_nil]; omega)) only [SXs, cond_true, cond_false, env0, List.getElem?_cons_zero, List.getElem?_cons_succ, Nat.reduceEqDiff, if_true, if_false, ↓reduceIte, Nat.reduceAdd, Nat.zero_add, Nat.add_zero, Nat.mul_one, reduceCtorEq, stO_at, alloc_at, st8]
      generalize (G7.alloc (.cells [.int .i64 0, .int .i64 0] 49)).put G7.n 0 (RQ.cs p) = G8 at *
      have hia : ∀ G' : AHeap, iaO 1 (some (SV.at R.n 0 N).v) (some (iv c)) G' = some ((SV.at R.n 0 N).p c, G') := fun G' => by rw [iaO_n (show c < (SV.at R.n 0 N).len from by show c < N; omega), Nat.mul_one]
      simp -implicitDefEqProofs (disch := first | assumption | exact id rfl | omega | (simp only [AHeap.alloc_n, AHeap.put_n, SV.put_n, AHeap.kill_n, ne_eq, List.length_cons, List.length_nil]; omega)) only [i_Route_26, i_Route_27, i_Route_28, i_Route_29, CW_cond, SXs, cond_true, cond_false, env0, List.getElem?_cons_zero, List.getElem?_cons_succ, Nat.reduceEqDiff, if_true, if_false, ↓reduceIte, Nat.reduceAdd, Nat.zero_add, Nat.add_zero, Nat.mul_one, reduceCtorEq, e9, ldO_at, hr8, ldC_cells, rq0, Option.map_some, hia, iarr_ld hd8.arr]
      have hperm : ∀ p', p' ∈ q1 ↔ p' ∈ q0 := fun p' => hq1.mem_iff
      have hq1l := hq1.length_eq
      refine condK_of (fun h4 => ?_) (fun h4 => ?_) <;> simp only [decide_eq_true_eq, decide_eq_false_iff_not, bne_iff_ne, ne_eq, bne_eq_false_iff_eq, beq_iff_eq, beq_eq_false_iff_ne, Bool.not_eq_true, Bool.not_eq_eq_eq_not, Bool.not_true, Bool.not_false, Classical.not_not, Int.not_lt, Int.not_le] at h4
      · have nd := (near.drop eok (by simp only [gi, hc, Int.toNat_natCast]; exact h4)).perm hperm
        exact ⟨(N - cnt ds) * 7000 + q1.length, by omega, ds, sh1, q1, rfl, e1, e2, e7, e9, e10, hER8, by omega, hd8, hp8, hs7, nd, by omega, hbd⟩
      · have hcl : c < ds.length := by omega
        have s9 := iown_st (n := p.2) hd8 hcl
        have hd9 := iown_put (n := p.2) hd8 hcl
        have hoffR : ∀ b, b ≠ R.n → (SV.at R.n 0 N).off b := fun b hb => by simp only [SV.off]; omega
        have hE9 : Ext R ((SV.at R.n 0 N).put G8 c [iv p.2]) := hER8.sput fun b hb => hoffR b (by omega)
        have hr9 : ((SV.at R.n 0 N).put G8 c [iv p.2]).get G7.n = .cells (RQ.cs p) 49 := by rw [SV.put_ne (hoffR _ (by omega))]; exact hr8
        have hp9 : HP ((SV.at R.n 0 N).put G8 c [iv p.2]) G4.n sh1 q1 := ⟨by rw [SV.put_ne (hoffR _ (by omega))]; exact hp8.at', hp8.own.sput (apart_of_off (hs7 _ (Nat.le_refl _))).symm, hp8.off, hp8.ok⟩
        have hq9 : ((SV.at R.n 0 N).put G8 c [iv p.2]).get G2.n = .cells g'.cs 28 := by rw [hE9.2 _ (by omega)]; exact hqR
        have hn9 : ((SV.at R.n 0 N).put G8 c [iv p.2]).n = G7.n + 1 := by rw [SV.put_n, hn8]
        have hy9 := hyR.ext hE9
        have ls9 := iarr_len hy9.s.arr
        have lys : (gOf N er).s.length = N + 1 := by simp [gOf]
        have sc := gOf_s (es := er) (N := N) (c := c) (by omega)
        have hs7' : sh1.off G7.n := SV.off_of_lt hp1.own.lt (Nat.le_refl _)
        simp -implicitDefEqProofs (disch := first | assumption | exact id rfl | omega | (simp only [AHeap.alloc_n, AHeap.put_n, SV.put_n, AHeap.kill_n, ne_eq, List.length_cons, List.length_nil]; omega)) only [i_Route_30, i_Route_31, i_Route_32, i_Route_33, i_Route_34, i_Route_35, SXs, cond_true, cond_false, env0, List.getElem?_cons_zero, List.getElem?_cons_succ, Nat.reduceEqDiff, if_true, if_false, ↓reduceIte, Nat.reduceAdd, Nat.zero_add, Nat.add_zero, Nat.mul_one, reduceCtorEq, e7, e9, ldO_at, hr8, ldC_cells, rq0, RQ1, Option.map_some, hia, s9, hr9, hq9, GV.get1, iarr_ld hy9.s.arr, sc]
        generalize (SV.at R.n 0 N).put G8 c [iv p.2] = G9 at *
        have hrc := hrb (c + 1) (by omega)
        rw [rowsE_succ, List.length_append] at hrc
        refine CW_midq (fun e G => ∃ (sh : SV) (q : PQ), e 1 = some (iv T) ∧ e 2 = some (pt H.n 0) ∧ e 7 = some (pt G2.n 0) ∧ e 9 = some (SV.at R.n 0 N).v ∧ e 10 = some (pt G4.n 0) ∧ Ext R G ∧ R.n < G.n ∧ IOwn G (.at R.n 0 N) (ds.set c p.2) ∧ HP G G4.n sh q ∧ (∀ k, k ≤ R.n → sh.off k) ∧ q.Perm ((rowE er c).map (fun e => (e.t, p.2 + e.c)) ++ q1)) ?_ ?_
        · refine CW_inv (fun n e G => ∃ (j : Nat) (sh : SV) (q : PQ), n = (rowE er c).length - j ∧ j ≤ (rowE er c).length ∧ e 1 = some (iv T) ∧ e 2 = some (pt H.n 0) ∧ e 7 = some (pt G2.n 0) ∧ e 9 = some (SV.at R.n 0 N).v ∧ e 10 = some (pt G4.n 0) ∧ e 11 = some (pt G7.n 0) ∧ e 12 = some (iv ((rowsE er c).length + j : Nat)) ∧ Ext R G ∧ G7.n < G.n ∧ IOwn G (.at R.n 0 N) (ds.set c p.2) ∧ HP G G4.n sh q ∧ (∀ k, k ≤ R.n → sh.off k) ∧ sh.off G7.n ∧ G.get G7.n = .cells (RQ.cs p) 49 ∧ q.Perm (((rowE er c).take j).map (fun e => (e.t, p.2 + e.c)) ++ q1)) (rowE er c).length
            ⟨0, sh1, q1, rfl, by omega, e1, e2, e7, e9, e10, rfl, rfl, hE9, by omega, hd9, hp9, hs7, hs7', hr9, by simp⟩ ?_
          clear hr9 hp9 hq9 hn9 hy9 ls9 hd9 hE9 s9 hp8 hd8 hER8 hr8 hn8 hE8 hE7 hd7 hk1 hp1 st8 e1 e2 e7 e9 e10
          rintro n' e G' ⟨j, sh', q', hn', hj, e1, e2, e7, e9, e10, e11, e12, hE9, hG7, hd9, hp9, hs9, hs9', hr9, hq9⟩
          have hqG : G'.get G2.n = .cells g'.cs 28 := by rw [hE9.2 _ (by omega)]; exact hqR
          have hy9 := hyR.ext hE9
          have ls9 := iarr_len hy9.s.arr
          have lt9 := iarr_len hy9.t.arr
          have lc9 := iarr_len hy9.c.arr
          have sc1 := gOf_s (es := er) (N := N) (c := c + 1) (by omega)
          rw [rowsE_succ, List.length_append] at sc1
          simp -implicitDefEqProofs (disch := first | assumption | exact id rfl | omega | (simp only [AHeap.alloc_n, AHeap.put_n, SV.put_n, AHeap.kill_n, ne_eq, List.length_cons, List.length_nil]; omega)) only [i_Route_36, i_Route_37, i_Route_38, i_Route_39, CW_cond, SXs, cond_true, cond_false, env0, List.getElem?_cons_zero, List.getElem?_cons_succ, Nat.reduceEqDiff, if_true, if_false, ↓reduceIte, Nat.reduceAdd, Nat.zero_add, Nat.add_zero, Nat.mul_one, reduceCtorEq, e7, e11, e12, ldO_at, hr9, hqG, ldC_cells, rq0, Option.map_some, GV.get1, iarr_ld hy9.s.arr, sc1]
          refine condK_of (fun h5 => ?_) (fun h5 => ?_) <;> simp only [decide_eq_true_eq, decide_eq_false_iff_not, bne_iff_ne, ne_eq, bne_eq_false_iff_eq, beq_iff_eq, beq_eq_false_iff_ne, Bool.not_eq_true, Bool.not_eq_eq_eq_not, Bool.not_true, Bool.not_false, Classical.not_not, Int.not_lt, Int.not_le] at h5
          · have hjl : j < (rowE er c).length := by omega
            obtain ⟨e', he'⟩ : ∃ e', (rowE er c)[j]? = some e' := ⟨_, List.getElem?_eq_getElem hjl⟩
            obtain ⟨g1, g2, g3, g4⟩ := gOf_row (N := N) (by omega) he'
            have hec := rok.c e' (mem_rowE.1 (List.mem_of_getElem? he')).1
            have hql' := hq9.length_eq
            simp only [List.length_append, List.length_map, List.length_take] at hql'
            simp -implicitDefEqProofs (disch := first | assumption | exact id rfl | omega | (simp only [AHeap.alloc_n, AHeap.put_n, SV.put_n, AHeap.kill_n, ne_eq, List.length_cons, List.length_nil]; omega)) only [i_Route_40, i_Route_41, i_Route_42, i_Route_43, SXs, cond_true, cond_false, env0, List.getElem?_cons_zero, List.getElem?_cons_succ, Nat.reduceEqDiff, if_true, if_false, ↓reduceIte, Nat.reduceAdd, Nat.zero_add, Nat.add_zero, Nat.mul_one, reduceCtorEq, e7, e10, e11, e12, ldO_at, hr9, hqG, ldC_cells, RQ1, Option.map_some, GV.get2, GV.get4, iarr_ld hy9.t.arr, iarr_ld hy9.c.arr, g1, g2, rb]
            refine (hput_rets hp9 (by omega)).mono ?_
            rintro _ G'' hn'' ⟨sh2, q2, hp2', hq2, hk2⟩
            have hG4G : G4.n < G'.n := AHeap.lt_of hp9.at' (by simp)
            refine ⟨n' - 1, by omega, j + 1, sh2, q2, by omega, by omega, e1, e2, e7, e9, e10, e11, rfl, ⟨by omega, fun b hb => ?_⟩, by omega, hd9.keep fun b hb => ?_, hp2', fun k hk => (hk2 k (by omega) (by omega) (hs9 k hk)).2, (hk2 _ hG7 (by omega) hs9').2, ?_, ?_⟩
            · rw [(hk2 b (by omega) (by omega) (hs9 b (by omega))).1, hE9.2 b hb]
            · have : b = R.n := by simp only [SV.off, ne_eq, Decidable.not_not] at hb; exact hb.symm
              exact (hk2 b (by omega) (by omega) (hs9 b (by omega))).1
            · rw [(hk2 _ hG7 (by omega) hs9').1]; exact hr9
            · rw [List.take_add_one, he']
              simp only [Option.toList_some, List.map_append, List.map_cons, List.map_nil, List.append_assoc]
              refine hq2.trans ((List.Perm.cons _ hq9).trans ?_)
              exact List.perm_middle.symm
          · have hjl : j = (rowE er c).length := by omega
            subst hjl
            rw [List.take_length] at hq9
            exact ⟨sh', q', (by first | trivial | assumption), (by first | trivial | assumption), (by first | trivial | assumption), (by first | trivial | assumption), (by first | trivial | assumption), hE9, by omega, hd9, hp9, hs9, hq9⟩
        · clear hr9 hp9 hq9 hn9 hy9 ls9 hd9 hE9 s9 hp8 hd8 hER8 hr8 hn8 hE8 hE7 hd7 hk1 hp1 st8 e1 e2 e7 e9 e10
          rintro e G' hn' ⟨sh', q', e1, e2, e7, e9, e10, hE9, hRG', hd9, hp9, hs9, hq9⟩
          have etn : p.1.toNat = c := by omega
          have hql' := hq9.length_eq
          simp only [List.length_append, List.length_map] at hql'
          obtain ⟨nt1, nt2⟩ := near.take (news := (rowE er c).map (fun e => (e.t, p.2 + e.c))) eok hTN (by simp only [gi, etn]; exact h4) hp.ok.min (fun p' hp' => by
              obtain ⟨e1, he1, rfl⟩ := List.mem_map.1 hp'
              obtain ⟨h6, h7⟩ := mem_rowE.1 he1
              rw [her] at h6
              obtain ⟨e2, he2, rfl⟩ := List.mem_map.1 h6
              exact ⟨e2, he2, by rw [hc]; exact h7, rfl⟩) (fun e1 he1 h6 => List.mem_map.2 ⟨e1.rev, mem_rowE.2 ⟨by rw [her]; exact List.mem_map.2 ⟨e1, he1, rfl⟩, by rw [← hc]; exact h6⟩, rfl⟩)
          rw [etn] at nt1 nt2
          have nt3 := nt1.perm (q' := q') fun p' => by rw [hq9.mem_iff, List.mem_append, List.mem_append, hperm]
          have hcl2 := cnt_le (ds.set c p.2)
          rw [List.length_set, near.len] at hcl2
          exact ⟨(N - cnt (ds.set c p.2)) * 7000 + q'.length, by omega, ds.set c p.2, sh', q', rfl, e1, e2, e7, e9, e10, hE9, hRG', hd9, hp9, hs9, nt3, by omega, fun u hu => by
            rw [getD_set hcl, nt2]
            split
            · omega
            · have := hbd u hu; omega⟩
    · have : q = [] := List.length_eq_zero_iff.1 (by omega)
      subst this
      exact ⟨ds, (by first | trivial | assumption), (by first | trivial | assumption), (by first | trivial | assumption), hE6, hRG, hd, near.done, fun u hu => by
        have := hbd u hu
        have := cnt_le ds
        rw [near.len] at this
        omega⟩
  · clear near hs6 hd6 hE6 hp hql hn6 hn5 hE4 hn4 hRn hyR hqR
    rintro e G hnG ⟨ds, e1, e2, e9, hER6, hRG, hd, hdist, hbd⟩
    have hbG : G.get H.n = .cells g.cs 28 := by rw [hER6.2 _ (by omega)]; exact hbR
    have hE6 := hER.trans hER6
    have hdl := hdist.len
    have hm1 : IArr (G.alloc (.cells [iv (-1)] 3)) (.at G.n 0 1) [-1] := (Own.new (cs := ints [-1]) (by simp [ints])).arr
    have hd2 := hd.alloc (o := .cells [iv (-1)] 3)
    have hE7 := hE6.allocs (.cells [iv (-1)] 3)
    have hb7 : (G.alloc (.cells [iv (-1)] 3)).get H.n = .cells g.cs 28 := by rw [AHeap.alloc_ne _ _ (by have := hE6.1; omega)]; exact hbG
    have hn7 : (G.alloc (.cells [iv (-1)] 3)).n = G.n + 1 := rfl
    simp -implicitDefEqProofs (disch := first | assumption | exact id rfl | omega | (simp only [AHeap.alloc_n, AHeap.put_n, SV.put_n, AHeap.kill_n, ne_eq, List.length_cons, List.length_nil]; omega)) only [i_Route_44, i_Route_45, i_Route_46, i_Route_47, i_Route_48, i_Route_49, i_Route_50, SXs, cond_true, cond_false, env0, List.getElem?_cons_zero, List.getElem?_cons_succ, Nat.reduceEqDiff, if_true, if_false, ↓reduceIte, Nat.reduceAdd, Nat.zero_add, Nat.add_zero, Nat.mul_one, reduceCtorEq, e2, mk_int, ldO_at, hb7, ldC_cells, GV.get0, hgn, Option.map_some]
    generalize G.alloc (.cells [iv (-1)] 3) = G7 at *
    refine (repeat_rets hm1 (by omega)).mono ?_
    rintro _ G8 hn8 ⟨rfl, hh8, hE8⟩
    have hd8 := hd2.ext hE8
    have hE9 := hE7.trans hE8
    have hb8 : G8.get H.n = .cells g.cs 28 := by rw [hE8.2 _ (by have := hE6.1; omega)]; exact hb7
    have hn9 : G7.n < G8.n := hh8.lt
    clear hm1 hd2 hb7 hE7 hE8 hb
    simp -implicitDefEqProofs (disch := first | assumption | exact id rfl | omega | (simp only [AHeap.alloc_n, AHeap.put_n, SV.put_n, AHeap.kill_n, ne_eq, List.length_cons, List.length_nil]; omega)) only [i_Route_46, i_Route_47, i_Route_48, i_Route_49, i_Route_50, SXs, cond_true, cond_false, env0, List.getElem?_cons_zero, List.getElem?_cons_succ, Nat.reduceEqDiff, if_true, if_false, ↓reduceIte, Nat.reduceAdd, Nat.zero_add, Nat.add_zero, Nat.mul_one, reduceCtorEq, e2, ldO_at, hb8, ldC_cells, GV.get0, hgn, Option.map_some]
    have o_m := ok.m
    have o_t := ok.t
    have o_d := ok.d
    have o_c := ok.c
    have o_s := ok.s
    rw [hN'] at o_m o_t o_d o_c
    rw [hN] at o_s
    have hel := hes.len
    have hRl : R.n < G7.n := by omega
    refine CW_inv (fun n e F => ∃ (c : Nat) (hs : List Int), n = N - c ∧ c ≤ N ∧ e 1 = some (iv T) ∧ e 2 = some (pt H.n 0) ∧ e 9 = some (SV.at R.n 0 N).v ∧ e 13 = some (SV.at G7.n 0 N).v ∧ e 103 = some (iv N) ∧ e 104 = some (iv c) ∧ (∀ b, b ≠ G7.n → F.get b = G8.get b) ∧ F.n = G8.n ∧ IOwn F (.at G7.n 0 N) hs ∧ HopOk (es.take (x.s.getD c 0).toNat) N T ds hs) N
      ⟨0, List.replicate N (-1), by simp, by simp, e1, e2, e9, rfl, rfl, rfl, fun _ _ => rfl, rfl, hh8, ?_⟩ ?_
    · rw [ok.s0]
      exact HopOk.nil (by simp) fun u hu => by simp [List.getD_eq_getElem?_getD, hu]
    clear e1 e2 e9 hh8
    rintro n e F ⟨c, hs, hn, hc, e1, e2, e9, e13, e103, e104, hF, hFn, hh, hop⟩
    simp -implicitDefEqProofs (disch := first | assumption | exact id rfl | omega | (simp only [AHeap.alloc_n, AHeap.put_n, SV.put_n, AHeap.kill_n, ne_eq, List.length_cons, List.length_nil]; omega)) only [i_Route_51, i_Route_52, i_Route_53, i_Route_54, CW_cond, SXs, cond_true, cond_false, env0, List.getElem?_cons_zero, List.getElem?_cons_succ, Nat.reduceEqDiff, if_true, if_false, ↓reduceIte, Nat.reduceAdd, Nat.zero_add, Nat.add_zero, Nat.mul_one, reduceCtorEq, e103, e104]
    have hHl : H.n ≠ G7.n := by have := hE6.1; omega
    refine condK_of (fun h => ?_) (fun h => ?_) <;> simp only [decide_eq_true_eq, decide_eq_false_iff_not, bne_iff_ne, ne_eq, bne_eq_false_iff_eq, beq_iff_eq, beq_eq_false_iff_ne, Bool.not_eq_true, Bool.not_eq_eq_eq_not, Bool.not_true, Bool.not_false, Classical.not_not, Int.not_lt, Int.not_le] at h
    · have hcN : c < N := by omega
      have hup := ok.up c (by omega)
      have hup2 := ok.up' (c + 1) N (by omega) (by omega)
      have hup0 := ok.up' 0 c (by omega) (by omega)
      rw [ok.s0] at hup0
      have hbF : F.get H.n = .cells g.cs 28 := by rw [hF _ hHl]; exact hb8
      have hgF : GArr F g x := hg.ext ⟨by rw [hFn]; exact hE9.1, fun b hb => by rw [hF b (by omega), hE9.2 b hb]⟩
      have ls := iarr_len hgF.s
      simp -implicitDefEqProofs (disch := first | assumption | exact id rfl | omega | (simp only [AHeap.alloc_n, AHeap.put_n, SV.put_n, AHeap.kill_n, ne_eq, List.length_cons, List.length_nil]; omega)) only [i_Route_55, i_Route_56, i_Route_57, i_Route_58, i_Route_59, i_Route_60, i_Route_61, i_Route_62, SXs, cond_true, cond_false, env0, List.getElem?_cons_zero, List.getElem?_cons_succ, Nat.reduceEqDiff, if_true, if_false, ↓reduceIte, Nat.reduceAdd, Nat.zero_add, Nat.add_zero, Nat.mul_one, reduceCtorEq, e2, e104, ldO_at, hbF, ldC_cells, GV.get1, Option.map_some, iarr_ld hgF.s]
      obtain ⟨k0, hk0⟩ : ∃ k0 : Nat, x.s.getD c 0 = k0 := ⟨(x.s.getD c 0).toNat, by omega⟩
      rw [hk0] at hop ⊢
      rw [Int.toNat_natCast] at hop
      refine CW_midq (fun e F => ∃ (hs : List Int), e 1 = some (iv T) ∧ e 2 = some (pt H.n 0) ∧ e 9 = some (SV.at R.n 0 N).v ∧ e 13 = some (SV.at G7.n 0 N).v ∧ e 103 = some (iv N) ∧ e 104 = some (iv c) ∧ (∀ b, b ≠ G7.n → F.get b = G8.get b) ∧ F.n = G8.n ∧ IOwn F (.at G7.n 0 N) hs ∧ HopOk (es.take (x.s.getD (c + 1) 0).toNat) N T ds hs) ?_ ?_
      · refine CW_inv (fun n e F => ∃ (k : Nat) (hs : List Int), (n : Int) = x.s.getD (c + 1) 0 - k ∧ x.s.getD c 0 ≤ k ∧ (k : Int) ≤ x.s.getD (c + 1) 0 ∧ e 1 = some (iv T) ∧ e 2 = some (pt H.n 0) ∧ e 9 = some (SV.at R.n 0 N).v ∧ e 13 = some (SV.at G7.n 0 N).v ∧ e 103 = some (iv N) ∧ e 104 = some (iv c) ∧ e 14 = some (iv c) ∧ e 15 = some (iv k) ∧ (∀ b, b ≠ G7.n → F.get b = G8.get b) ∧ F.n = G8.n ∧ IOwn F (.at G7.n 0 N) hs ∧ HopOk (es.take k) N T ds hs) (x.s.getD (c + 1) 0 - x.s.getD c 0).toNat
          ⟨k0, hs, by omega, by omega, by omega, e1, e2, e9, e13, e103, e104, rfl, rfl, hF, hFn, hh, hop⟩ ?_
        clear e1 e2 e9 e13 e103 e104 hF hFn hh hop hbF hgF hs ls F
        rintro n' e F ⟨k, hs, hn', hk1, hk2, e1, e2, e9, e13, e103, e104, e14, e15, hF, hFn, hh, hop⟩
        have hbF : F.get H.n = .cells g.cs 28 := by rw [hF _ hHl]; exact hb8
        have hgF : GArr F g x := hg.ext ⟨by rw [hFn]; exact hE9.1, fun b hb => by rw [hF b (by omega), hE9.2 b hb]⟩
        have ls := iarr_len hgF.s
        have hrest : ∀ l : List E4, (∀ e ∈ l, e.f = c) → c = T → ∀ e ∈ l, ∀ u, ¬ good T ds u e := fun l hl hcT e he u hgd => by
          have := hl e he; have := hgd.1; have := hgd.2.1; omega
        have hfrom : ∀ k : Nat, x.s.getD c 0 ≤ k → (k : Int) < x.s.getD (c + 1) 0 → es[k]? = some ⟨c, x.t.getD k 0, x.d.getD k 0, x.c.getD k 0⟩ := fun k h1 h2 => by
          obtain ⟨c', q1, q2, q3, q4⟩ := hes.get k (by omega)
          have hcc : c' = c := by
            rcases Nat.lt_trichotomy c c' with g | g | g
            · have := ok.up' (c + 1) c' (by omega) (by omega); omega
            · exact g.symm
            · have := ok.up' (c' + 1) c (by omega) (by omega); omega
          rw [q4, hcc]
        simp -implicitDefEqProofs (disch := first | assumption | exact id rfl | omega | (simp only [AHeap.alloc_n, AHeap.put_n, SV.put_n, AHeap.kill_n, ne_eq, List.length_cons, List.length_nil]; omega)) only [i_Route_63, i_Route_64, i_Route_65, i_Route_66, CW_cond, SXs, cond_true, cond_false, env0, List.getElem?_cons_zero, List.getElem?_cons_succ, Nat.reduceEqDiff, if_true, if_false, ↓reduceIte, Nat.reduceAdd, Nat.zero_add, Nat.add_zero, Nat.mul_one, reduceCtorEq, e2, e14, e15, ldO_at, hbF, ldC_cells, GV.get1, Option.map_some, iarr_ld hgF.s]
        refine bool_split (fun h1 => ?_) (fun h1 => ?_) <;> simp only [decide_eq_true_eq, decide_eq_false_iff_not, bne_iff_ne, ne_eq, bne_eq_false_iff_eq, beq_iff_eq, beq_eq_false_iff_ne, Bool.not_eq_true, Bool.not_eq_eq_eq_not, Bool.not_true, Bool.not_false, Classical.not_not, Int.not_lt, Int.not_le] at h1
        · simp -implicitDefEqProofs (disch := first | assumption | exact id rfl | omega | (simp only [AHeap.alloc_n, AHeap.put_n, SV.put_n, AHeap.kill_n, ne_eq, List.length_cons, List.length_nil]; omega)) only [i_Route_63, i_Route_64, i_Route_65, i_Route_66, CW_cond, SXs, cond_true, cond_false, env0, List.getElem?_cons_zero, List.getElem?_cons_succ, Nat.reduceEqDiff, if_true, if_false, ↓reduceIte, Nat.reduceAdd, Nat.zero_add, Nat.add_zero, Nat.mul_one, reduceCtorEq, e1, e14]
          refine condK_of (fun h2 => ?_) (fun h2 => ?_) <;> simp only [decide_eq_true_eq, decide_eq_false_iff_not, bne_iff_ne, ne_eq, bne_eq_false_iff_eq, beq_iff_eq, beq_eq_false_iff_ne, Bool.not_eq_true, Bool.not_eq_eq_eq_not, Bool.not_true, Bool.not_false, Classical.not_not, Int.not_lt, Int.not_le] at h2
          · have hkM : (k : Int) < x.s.getD (c + 1) 0 := by omega
            have hee := hfrom k hk1 hkM
            have hed := ok.e k (by rw [hN']; omega)
            have lt := iarr_len hgF.t
            have ld := iarr_len hgF.d
            have lc := iarr_len hgF.c
            have ldd := hdist.len
            have lhh := hop.len
            obtain ⟨u, hu⟩ : ∃ u : Nat, x.t.getD k 0 = u := ⟨(x.t.getD k 0).toNat, by have := hed.t; omega⟩
            have huN : u < N := by have := hed.t; omega
            have hdF : IOwn F (.at R.n 0 N) ds := hd8.keep fun b hb => hF b (by simp only [SV.off, ne_eq, Decidable.not_not] at hb; omega)
            have htk : es.take (k + 1) = es.take k ++ [⟨c, x.t.getD k 0, x.d.getD k 0, x.c.getD k 0⟩] := by rw [List.take_add_one, hee]; rfl
            have hbu := hbd u huN
            have hcc := hed.c
            have hdd := hed.d
            have hgg : ∀ v, good T ds v ⟨c, x.t.getD k 0, x.d.getD k 0, x.c.getD k 0⟩ → (c = v ∧ 0 ≤ ds.getD u 0 ∧ ds.getD u 0 + x.c.getD k 0 = ds.getD c 0) := fun v hv => by
              obtain ⟨v1, v2, v3, v4⟩ := hv
              have hcv : c = v := Int.ofNat.inj v1
              subst hcv
              simp only [gi, hu, Int.toNat_natCast] at v3 v4
              exact ⟨rfl, v3, v4⟩
            have ias : ∀ (b j : Nat) (G' : AHeap), j < N → iaO 1 (some (SV.at b 0 N).v) (some (iv j)) G' = some ((SV.at b 0 N).p j, G') := fun b j G' hj => by rw [iaO_n (show j < (SV.at b 0 N).len from hj), Nat.mul_one]
            simp -implicitDefEqProofs (disch := first | assumption | exact id rfl | omega | (simp only [AHeap.alloc_n, AHeap.put_n, SV.put_n, AHeap.kill_n, ne_eq, List.length_cons, List.length_nil]; omega)) only [i_Route_67, i_Route_68, i_Route_69, i_Route_70, i_Route_71, i_Route_72, i_Route_73, CW_cond, SXs, cond_true, cond_false, env0, List.getElem?_cons_zero, List.getElem?_cons_succ, Nat.reduceEqDiff, if_true, if_false, ↓reduceIte, Nat.reduceAdd, Nat.zero_add, Nat.add_zero, Nat.mul_one, reduceCtorEq, e2, e9, e15, ldO_at, hbF, ldC_cells, GV.get2, Option.map_some, iarr_ld hgF.t, hu, ias, iarr_ld hdF.arr]
            refine bool_split (fun h3 => ?_) (fun h3 => ?_) <;> simp only [decide_eq_true_eq, decide_eq_false_iff_not, bne_iff_ne, ne_eq, bne_eq_false_iff_eq, beq_iff_eq, beq_eq_false_iff_ne, Bool.not_eq_true, Bool.not_eq_eq_eq_not, Bool.not_true, Bool.not_false, Classical.not_not, Int.not_lt, Int.not_le] at h3
            · simp -implicitDefEqProofs (disch := first | assumption | exact id rfl | omega | (simp only [AHeap.alloc_n, AHeap.put_n, SV.put_n, AHeap.kill_n, ne_eq, List.length_cons, List.length_nil]; omega)) only [SXs, cond_true, cond_false, env0, List.getElem?_cons_zero, List.getElem?_cons_succ, Nat.reduceEqDiff, if_true, if_false, ↓reduceIte, Nat.reduceAdd, Nat.zero_add, Nat.add_zero, Nat.mul_one, reduceCtorEq, e2, e9, e14, e15, ldO_at, hbF, ldC_cells, GV.get4, Option.map_some, iarr_ld hgF.c, ias, iarr_ld hdF.arr]
              refine bool_split (fun h4 => ?_) (fun h4 => ?_) <;> simp only [decide_eq_true_eq, decide_eq_false_iff_not, bne_iff_ne, ne_eq, bne_eq_false_iff_eq, beq_iff_eq, beq_eq_false_iff_ne, Bool.not_eq_true, Bool.not_eq_eq_eq_not, Bool.not_true, Bool.not_false, Classical.not_not, Int.not_lt, Int.not_le] at h4
              · simp -implicitDefEqProofs (disch := first | assumption | exact id rfl | omega | (simp only [AHeap.alloc_n, AHeap.put_n, SV.put_n, AHeap.kill_n, ne_eq, List.length_cons, List.length_nil]; omega)) only [SXs, cond_true, cond_false, env0, List.getElem?_cons_zero, List.getElem?_cons_succ, Nat.reduceEqDiff, if_true, if_false, ↓reduceIte, Nat.reduceAdd, Nat.zero_add, Nat.add_zero, Nat.mul_one, reduceCtorEq, e2, e13, e14, e15, ias, iarr_ld hh.arr]
                have hgood : good T ds c ⟨c, x.t.getD k 0, x.d.getD k 0, x.c.getD k 0⟩ := ⟨rfl, by omega, by simp only [gi, hu, Int.toNat_natCast]; exact h3, by simp only [gi, hu, Int.toNat_natCast]; exact h4⟩
                have hes0 : ∀ e ∈ es.take k, 0 ≤ e.d := fun e he => (eok.d e (List.mem_of_mem_take he)).1
                have htake : hs.getD c 0 < 0 ∨ x.d.getD k 0 < hs.getD c 0 → HopOk (es.take (k + 1)) N T ds (hs.set c (x.d.getD k 0)) := fun hor => by
                  rw [htk]
                  exact hop.take hes0 ⟨by simp, by simp; omega⟩ hdd.1 hgood (by simpa [gi] using hor)
                have hh2 := iown_put (n := x.d.getD k 0) hh (show c < hs.length by omega)
                have hF2 : ∀ b, b ≠ G7.n → ((SV.at G7.n 0 N).put F c [iv (x.d.getD k 0)]).get b = G8.get b := fun b hb => by rw [SV.put_ne (by simp only [SV.off]; omega), hF b hb]
                have hFn2 : ((SV.at G7.n 0 N).put F c [iv (x.d.getD k 0)]).n = G8.n := by rw [SV.put_n, hFn]
                refine bool_split (fun h5 => ?_) (fun h5 => ?_) <;> simp only [decide_eq_true_eq, decide_eq_false_iff_not, bne_iff_ne, ne_eq, bne_eq_false_iff_eq, beq_iff_eq, beq_eq_false_iff_ne, Bool.not_eq_true, Bool.not_eq_eq_eq_not, Bool.not_true, Bool.not_false, Classical.not_not, Int.not_lt, Int.not_le] at h5
                · simp -implicitDefEqProofs (disch := first | assumption | exact id rfl | omega | (simp only [AHeap.alloc_n, AHeap.put_n, SV.put_n, AHeap.kill_n, ne_eq, List.length_cons, List.length_nil]; omega)) only [i_Route_73, CW_cond, i_Route_74, i_Route_75, SXs, cond_true, cond_false, env0, List.getElem?_cons_zero, List.getElem?_cons_succ, Nat.reduceEqDiff, if_true, if_false, ↓reduceIte, Nat.reduceAdd, Nat.zero_add, Nat.add_zero, Nat.mul_one, reduceCtorEq, condK_true, e2, e13, e14, e15, ldO_at, hbF, ldC_cells, GV.get3, Option.map_some, iarr_ld hgF.d, ias, iown_st (n := x.d.getD k 0) hh (show c < hs.length by omega)]
                  exact ⟨n' - 1, by omega, k + 1, _, by omega, by omega, by omega, e1, e2, e9, e13, e103, e104, e14, rfl, hF2, hFn2, hh2, htake (.inl h5)⟩
                · simp -implicitDefEqProofs (disch := first | assumption | exact id rfl | omega | (simp only [AHeap.alloc_n, AHeap.put_n, SV.put_n, AHeap.kill_n, ne_eq, List.length_cons, List.length_nil]; omega)) only [i_Route_73, CW_cond, SXs, cond_true, cond_false, env0, List.getElem?_cons_zero, List.getElem?_cons_succ, Nat.reduceEqDiff, if_true, if_false, ↓reduceIte, Nat.reduceAdd, Nat.zero_add, Nat.add_zero, Nat.mul_one, reduceCtorEq, e2, e13, e14, e15, ldO_at, hbF, ldC_cells, GV.get3, Option.map_some, iarr_ld hgF.d, iarr_ld hh.arr, ias]
                  refine condK_of (fun h6 => ?_) (fun h6 => ?_) <;> simp only [decide_eq_true_eq, decide_eq_false_iff_not, bne_iff_ne, ne_eq, bne_eq_false_iff_eq, beq_iff_eq, beq_eq_false_iff_ne, Bool.not_eq_true, Bool.not_eq_eq_eq_not, Bool.not_true, Bool.not_false, Classical.not_not, Int.not_lt, Int.not_le] at h6
                  · simp -implicitDefEqProofs (disch := first | assumption | exact id rfl | omega | (simp only [AHeap.alloc_n, AHeap.put_n, SV.put_n, AHeap.kill_n, ne_eq, List.length_cons, List.length_nil]; omega)) only [i_Route_74, i_Route_75, SXs, cond_true, cond_false, env0, List.getElem?_cons_zero, List.getElem?_cons_succ, Nat.reduceEqDiff, if_true, if_false, ↓reduceIte, Nat.reduceAdd, Nat.zero_add, Nat.add_zero, Nat.mul_one, reduceCtorEq, e2, e13, e14, e15, ldO_at, hbF, ldC_cells, GV.get3, Option.map_some, iarr_ld hgF.d, ias, iown_st (n := x.d.getD k 0) hh (show c < hs.length by omega)]
                    exact ⟨n' - 1, by omega, k + 1, _, by omega, by omega, by omega, e1, e2, e9, e13, e103, e104, e14, rfl, hF2, hFn2, hh2, htake (.inr h6)⟩
                  · simp -implicitDefEqProofs (disch := first | assumption | exact id rfl | omega | (simp only [AHeap.alloc_n, AHeap.put_n, SV.put_n, AHeap.kill_n, ne_eq, List.length_cons, List.length_nil]; omega)) only [i_Route_75, SXs, cond_true, cond_false, env0, List.getElem?_cons_zero, List.getElem?_cons_succ, Nat.reduceEqDiff, if_true, if_false, ↓reduceIte, Nat.reduceAdd, Nat.zero_add, Nat.add_zero, Nat.mul_one, reduceCtorEq, e15]
                    exact ⟨n' - 1, by omega, k + 1, hs, by omega, by omega, by omega, e1, e2, e9, e13, e103, e104, e14, rfl, hF, hFn, hh, by rw [htk]; exact hop.keep (by simpa [gi] using h5) (by simpa [gi] using h6)⟩
              · simp -implicitDefEqProofs (disch := first | assumption | exact id rfl | omega | (simp only [AHeap.alloc_n, AHeap.put_n, SV.put_n, AHeap.kill_n, ne_eq, List.length_cons, List.length_nil]; omega)) only [i_Route_73, CW_cond, i_Route_75, SXs, cond_true, cond_false, env0, List.getElem?_cons_zero, List.getElem?_cons_succ, Nat.reduceEqDiff, if_true, if_false, ↓reduceIte, Nat.reduceAdd, Nat.zero_add, Nat.add_zero, Nat.mul_one, reduceCtorEq, condK_false, e15]
                exact ⟨n' - 1, by omega, k + 1, hs, by omega, by omega, by omega, e1, e2, e9, e13, e103, e104, e14, rfl, hF, hFn, hh, by rw [htk]; exact hop.skip fun v hv => h4 (hgg v hv).2.2⟩
            · simp -implicitDefEqProofs (disch := first | assumption | exact id rfl | omega | (simp only [AHeap.alloc_n, AHeap.put_n, SV.put_n, AHeap.kill_n, ne_eq, List.length_cons, List.length_nil]; omega)) only [i_Route_73, CW_cond, i_Route_75, SXs, cond_true, cond_false, env0, List.getElem?_cons_zero, List.getElem?_cons_succ, Nat.reduceEqDiff, if_true, if_false, ↓reduceIte, Nat.reduceAdd, Nat.zero_add, Nat.add_zero, Nat.mul_one, reduceCtorEq, condK_false, e15]
              exact ⟨n' - 1, by omega, k + 1, hs, by omega, by omega, by omega, e1, e2, e9, e13, e103, e104, e14, rfl, hF, hFn, hh, by rw [htk]; exact hop.skip fun v hv => by have := (hgg v hv).2.1; omega⟩
          · have hcT : c = T := by omega
            refine ⟨hs, (by first | trivial | assumption), (by first | trivial | assumption), (by first | trivial | assumption), (by first | trivial | assumption), (by first | trivial | assumption), (by first | trivial | assumption), hF, hFn, hh, ?_⟩
            have hsp : es.take (x.s.getD (c + 1) 0).toNat = es.take k ++ (es.drop k).take ((x.s.getD (c + 1) 0).toNat - k) := by
              obtain ⟨m, hm⟩ : ∃ m, (x.s.getD (c + 1) 0).toNat = k + m := ⟨(x.s.getD (c + 1) 0).toNat - k, by omega⟩
              rw [hm, Nat.add_sub_cancel_left, List.take_add]
            rw [hsp]
            refine hop.skips (hrest _ (fun e he => ?_) hcT)
            obtain ⟨i, hi, rfl⟩ := List.getElem_of_mem he
            have hi2 : i < (x.s.getD (c + 1) 0).toNat - k := by rw [List.length_take] at hi; omega
            have hq := hfrom (k + i) (by omega) (by omega)
            rw [List.getElem_take, List.getElem_drop]
            have hq2 := (List.getElem?_eq_some_iff.1 hq).2
            rw [hq2]
        · simp -implicitDefEqProofs (disch := first | assumption | exact id rfl | omega | (simp only [AHeap.alloc_n, AHeap.put_n, SV.put_n, AHeap.kill_n, ne_eq, List.length_cons, List.length_nil]; omega)) only [i_Route_63, i_Route_64, i_Route_65, i_Route_66, CW_cond, SXs, cond_true, cond_false, env0, List.getElem?_cons_zero, List.getElem?_cons_succ, Nat.reduceEqDiff, if_true, if_false, ↓reduceIte, Nat.reduceAdd, Nat.zero_add, Nat.add_zero, Nat.mul_one, reduceCtorEq, condK_false]
          have hke : k = (x.s.getD (c + 1) 0).toNat := by omega
          exact ⟨hs, e1, e2, e9, e13, e103, e104, hF, hFn, hh, by rw [← hke]; exact hop⟩
      · clear e1 e2 e9 e13 e103 e104 hF hFn hh hop hbF hgF ls
        rintro e F' hFn' ⟨hs', e1, e2, e9, e13, e103, e104, hF, hFn, hh, hop⟩
        simp -implicitDefEqProofs (disch := first | assumption | exact id rfl | omega | (simp only [AHeap.alloc_n, AHeap.put_n, SV.put_n, AHeap.kill_n, ne_eq, List.length_cons, List.length_nil]; omega)) only [i_Route_76, SXs, cond_true, cond_false, env0, List.getElem?_cons_zero, List.getElem?_cons_succ, Nat.reduceEqDiff, if_true, if_false, ↓reduceIte, Nat.reduceAdd, Nat.zero_add, Nat.add_zero, Nat.mul_one, reduceCtorEq, e104]
        exact ⟨N - (c + 1), by omega, c + 1, hs', rfl, by omega, e1, e2, e9, e13, e103, rfl, hF, hFn, hh, hop⟩
    · have hcN : c = N := by omega
      simp -implicitDefEqProofs (disch := first | assumption | exact id rfl | omega | (simp only [AHeap.alloc_n, AHeap.put_n, SV.put_n, AHeap.kill_n, ne_eq, List.length_cons, List.length_nil]; omega)) only [i_Route_77, i_Route_78, aop_ld, aop_ldn, bodyK_ret, bodyK_normal, resL, resV, Option.map_some, oneV, blockK_exit, seqK_exit, seqK_ret, blockK_ret, loopK_exit, loopK_ret, rs_i_Route, SXs, cond_true, cond_false, env0, List.getElem?_cons_zero, List.getElem?_cons_succ, Nat.reduceEqDiff, if_true, if_false, ↓reduceIte, Nat.reduceAdd, Nat.zero_add, Nat.add_zero, Nat.mul_one, reduceCtorEq, aop_ld, aop_ldn, bodyK_ret, bodyK_normal, resL, resV, Option.map_some, oneV, blockK_exit, seqK_exit, seqK_ret, blockK_ret, loopK_exit, loopK_ret, e9, e13]
      have hdF : IOwn F (.at R.n 0 N) ds := hd8.keep fun b hb => hF b (by simp only [SV.off, ne_eq, Decidable.not_not] at hb; omega)
      rw [hcN, List.take_of_length_le (by omega)] at hop
      refine ⟨_, _, ds, hs, 0, rfl, hdF, hh, apart_of_off (by simp only [SV.off]; omega), ⟨by rw [hFn]; exact hE9.1, fun b hb => by rw [hF b (by have := hE6.1; omega), hE9.2 b hb]⟩, fun k hk => ?_, .inl ⟨ok, by omega, by omega, rfl, es, hes, ?_, ?_⟩⟩
      · have := hE6.1
        have := hER.1
        exact ⟨by simp only [SV.off]; omega, by simp only [SV.off]; omega⟩
      · rw [hN', Int.toNat_natCast]; exact hdist
      · rw [hN', Int.toNat_natCast]; exact hop
end Go.AB
