/- Edges. -/
import Derived.Test.YtnbamdhmhnhneaaT4
import Derived.Test.YtnbamdhmhnhneaaL1
set_option linter.unusedVariables false
set_option linter.unusedSimpArgs false
set_option maxRecDepth 10000
namespace Go.AB
open Go.Proofs
variable {w0 : World} {H : AHeap}

def E4.cs (e : E4) : List Value := [iv e.f, iv e.t, iv e.d, iv e.c]
def ecells (es : List E4) : List Value := es.flatMap E4.cs
theorem ecells_len {es : List E4} : (ecells es).length = es.length * 4 := by
  induction es with
  | nil => rfl
  | cons e es ih => simp [ecells, E4.cs] at ih ⊢; omega
theorem ecells_app {es fs : List E4} : ecells (es ++ fs) = ecells es ++ ecells fs := by simp [ecells]
abbrev EOwn (H : AHeap) (s : SV) (es : List E4) : Prop := Own H s 42 4 (ecells es)
theorem eown_len {s : SV} {es : List E4} (h : EOwn H s es) : s.len = es.length := by have := h.len; rw [ecells_len] at this; omega

/-- All edges in their order. -/
structure GD.Edges (x : GD) (es : List E4) : Prop where
  len : es.length = x.t.length
  get : ∀ k, k < x.t.length → ∃ c : Nat, (c : Int) < x.n ∧ x.s.getD c 0 ≤ k ∧ (k : Int) < x.s.getD (c + 1) 0 ∧ es[k]? = some ⟨c, x.t.getD k 0, x.d.getD k 0, x.c.getD k 0⟩

theorem GD.Ok.up' {x : GD} (h : x.Ok) : ∀ c d : Nat, c ≤ d → (d : Int) ≤ x.n → x.s.getD c 0 ≤ x.s.getD d 0 := by
  intro c d hcd
  induction d with
  | zero => intro _; have : c = 0 := by omega
            subst this; omega
  | succ d ih =>
    intro hd
    rcases Nat.lt_or_ge c (d + 1) with h1 | h1
    · have := ih (by omega) (by omega)
      have := h.up d (by omega)
      omega
    · have : c = d + 1 := by omega
      subst this; omega

theorem l5edges_rets {g : GV} {x : GD} (hg : GArr H g x) (ok : x.Ok) : Rets Go.Proofs.Try.prog w0 18 [g.v] H fun v H' => ∃ s es, v = s.v ∧ EOwn H' s es ∧ x.Edges es ∧ Ext H H' ∧ ∀ b, b < H.n → s.off b := by
  obtain ⟨N, hN⟩ : ∃ N : Nat, x.n = N := ⟨x.n.toNat, by have := ok.n; omega⟩
  have hN' : x.n.toNat = N := by omega
  have o_n := ok.n
  have o_s := ok.s
  have o_s0 := ok.s0
  have o_m := ok.m
  have o_t := ok.t
  have o_d := ok.d
  have o_c := ok.c
  rw [hN'] at o_m o_t o_d o_c
  rw [hN] at o_n o_s
  have hE : Ext H (H.alloc (.cells g.cs 28)) := Ext.alloc _ _
  have hb : (H.alloc (.cells g.cs 28)).get H.n = .cells g.cs 28 := AHeap.alloc_self _ _
  have hn := hg.n
  rw [hN] at hn
  refine rets_fun rfl cf_s_l5edges (body_of ?_)
  simp -implicitDefEqProofs (disch := first | assumption | exact id rfl | omega | (simp only [AHeap.alloc_n, AHeap.put_n, SV.put_n, AHeap.kill_n, ne_eq, List.length_cons, List.length_nil]; omega)) only [s_l5edges_0, s_l5edges_1, s_l5edges_2, s_l5edges_3, s_l5edges_4, s_l5edges_5, s_l5edges_6, s_l5edges_7, SXs, cond_true, cond_false, env0, List.getElem?_cons_zero, List.getElem?_cons_succ, Nat.reduceEqDiff, if_true, if_false, ↓reduceIte, Nat.reduceAdd, Nat.zero_add, Nat.add_zero, Nat.mul_one, reduceCtorEq, boxO_agg]
  -- what holds behind i edges
  let Inv : Nat → Env → AHeap → Prop := fun i e G => e 1 = some (pt H.n 0) ∧ Ext H G ∧ G.get H.n = .cells g.cs 28 ∧ ∃ s es, e 3 = some (SV.v s) ∧ EOwn G s es ∧ es.length = i ∧ i ≤ x.t.length ∧ (∀ b, b < H.n + 1 → s.off b) ∧
    ∀ k, k < i → ∃ c : Nat, (c : Int) < x.n ∧ x.s.getD c 0 ≤ k ∧ (k : Int) < x.s.getD (c + 1) 0 ∧ es[k]? = some ⟨c, x.t.getD k 0, x.d.getD k 0, x.c.getD k 0⟩
  have hInv0 : Inv 0 (((((env0 [g.v]).put (some 1) (pt H.n 0)).put (some 2) (.slice none 0 0)).put (some 3) (.slice none 0 0)).put (some 4) (iv 0)) (H.alloc (.cells g.cs 28)) :=
    ⟨rfl, hE, hb, .nil, [], rfl, Own.nil, rfl, Nat.zero_le _, fun _ _ => trivial, fun k hk => by omega⟩
  refine CW_inv (fun n e G => ∃ c i : Nat, n = N - c ∧ c ≤ N ∧ e 4 = some (iv c) ∧ x.s.getD c 0 = i ∧ Inv i e G) N ⟨0, 0, by simp, by simp, rfl, o_s0, hInv0⟩ ?_
  clear hInv0 hb hE
  rintro n e G ⟨c, i, hc1, hc2, e4, hsi, e1, hE, hb, s, es, e3, ho, hel, hit, hoff, hget⟩
  simp -implicitDefEqProofs (disch := first | assumption | exact id rfl | omega | (simp only [AHeap.alloc_n, AHeap.put_n, SV.put_n, AHeap.kill_n, ne_eq, List.length_cons, List.length_nil]; omega)) only [s_l5edges_9, s_l5edges_10, s_l5edges_11, s_l5edges_12, CW_cond, SXs, cond_true, cond_false, env0, List.getElem?_cons_zero, List.getElem?_cons_succ, Nat.reduceEqDiff, if_true, if_false, ↓reduceIte, Nat.reduceAdd, Nat.zero_add, Nat.add_zero, Nat.mul_one, reduceCtorEq, HXs, Option.map_some, List.length_cons, List.length_nil, List.take_succ_cons, List.take_zero, List.drop_succ_cons, List.drop_zero, List.cons_append, List.nil_append, hb, GV.get0, hn, e1, e4]
  refine condK_of (fun h => ?_) (fun h => ?_) <;> simp only [decide_eq_true_eq, decide_eq_false_iff_not, bne_iff_ne, ne_eq, bne_eq_false_iff_eq, beq_iff_eq, beq_eq_false_iff_ne, Bool.not_eq_true, Bool.not_eq_eq_eq_not, Bool.not_true, Bool.not_false, Classical.not_not, Int.not_lt, Int.not_le] at h
  · have hcN : c < N := by omega
    obtain ⟨-, hs, ht, hd, hc⟩ := hg.ext hE
    have ls := iarr_len hs
    simp -implicitDefEqProofs (disch := first | assumption | exact id rfl | omega | (simp only [AHeap.alloc_n, AHeap.put_n, SV.put_n, AHeap.kill_n, ne_eq, List.length_cons, List.length_nil]; omega)) only [s_l5edges_13, s_l5edges_14, s_l5edges_15, s_l5edges_16, s_l5edges_17, SXs, cond_true, cond_false, env0, List.getElem?_cons_zero, List.getElem?_cons_succ, Nat.reduceEqDiff, if_true, if_false, ↓reduceIte, Nat.reduceAdd, Nat.zero_add, Nat.add_zero, Nat.mul_one, reduceCtorEq, HXs, Option.map_some, List.length_cons, List.length_nil, List.take_succ_cons, List.take_zero, List.drop_succ_cons, List.drop_zero, List.cons_append, List.nil_append, hb, GV.get1, e1, e4, iarr_ld hs]
    have hup := ok.up c (by omega)
    have hup2 := ok.up' (c + 1) N (by omega) (by omega)
    refine CW_inv (fun n e G => ∃ i : Nat, (n : Int) = x.s.getD (c + 1) 0 - i ∧ (i : Int) ≤ x.s.getD (c + 1) 0 ∧ x.s.getD c 0 ≤ i ∧ e 4 = some (iv c) ∧ e 5 = some (iv i) ∧ Inv i e G) (x.s.getD (c + 1) 0 - x.s.getD c 0).toNat
      ⟨i, by omega, by omega, by omega, e4, by simp only [put_some, ↓reduceIte, hsi], e1, hE, hb, s, es, e3, ho, hel, hit, hoff, hget⟩ ?_
    clear e1 hE hb e3 ho hel hit hoff hget e4 hs ht hd hc hsi
    clear s es i
    rintro m e G ⟨i, hi1, hi2, hi3, e4, e5, e1, hE, hb, s, es, e3, ho, hel, hit, hoff, hget⟩
    obtain ⟨-, hs, ht, hd, hc⟩ := hg.ext hE
    simp -implicitDefEqProofs (disch := first | assumption | exact id rfl | omega | (simp only [AHeap.alloc_n, AHeap.put_n, SV.put_n, AHeap.kill_n, ne_eq, List.length_cons, List.length_nil]; omega)) only [s_l5edges_19, s_l5edges_20, s_l5edges_21, s_l5edges_22, CW_cond, SXs, cond_true, cond_false, env0, List.getElem?_cons_zero, List.getElem?_cons_succ, Nat.reduceEqDiff, if_true, if_false, ↓reduceIte, Nat.reduceAdd, Nat.zero_add, Nat.add_zero, Nat.mul_one, reduceCtorEq, HXs, Option.map_some, List.length_cons, List.length_nil, List.take_succ_cons, List.take_zero, List.drop_succ_cons, List.drop_zero, List.cons_append, List.nil_append, hb, GV.get1, e1, e4, e5, iarr_ld hs]
    refine condK_of (fun h => ?_) (fun h => ?_) <;> simp only [decide_eq_true_eq, decide_eq_false_iff_not, bne_iff_ne, ne_eq, bne_eq_false_iff_eq, beq_iff_eq, beq_eq_false_iff_ne, Bool.not_eq_true, Bool.not_eq_eq_eq_not, Bool.not_true, Bool.not_false, Classical.not_not, Int.not_lt, Int.not_le] at h
    · have lt := iarr_len ht
      have ld := iarr_len hd
      have lc := iarr_len hc
      have h1 : i < x.t.length := by omega
      have h2 : i < x.d.length := by omega
      have h3 : i < x.c.length := by omega
      have hbld : ∀ (a b c d : Int) (G : AHeap), buildO [.int .i64 0, .int .i64 0, .int .i64 0, .int .i64 0] [(0, 1), (1, 1), (2, 1), (3, 1)] (some [(0, iv a), (1, iv b), (2, iv c), (3, iv d)]) G = some (.agg (E4.mk a b c d).cs.toArray, G) := fun a b c d G => rfl
      have hmk : ∀ (q : E4) (G : AHeap), mkslO 42 4 1 [.int .i64 0, .int .i64 0, .int .i64 0, .int .i64 0] (some [(0, .agg q.cs.toArray)]) G = some ((SV.at G.n 0 1).v, G.alloc (.cells q.cs 42)) := fun q G => mkslO_one rfl rfl rfl
      simp -implicitDefEqProofs (disch := first | assumption | exact id rfl | omega | (simp only [AHeap.alloc_n, AHeap.put_n, SV.put_n, AHeap.kill_n, ne_eq, List.length_cons, List.length_nil]; omega)) only [s_l5edges_23, s_l5edges_24, s_l5edges_25, SXs, cond_true, cond_false, env0, List.getElem?_cons_zero, List.getElem?_cons_succ, Nat.reduceEqDiff, if_true, if_false, ↓reduceIte, Nat.reduceAdd, Nat.zero_add, Nat.add_zero, Nat.mul_one, reduceCtorEq, HXs, Option.map_some, List.length_cons, List.length_nil, List.take_succ_cons, List.take_zero, List.drop_succ_cons, List.drop_zero, List.cons_append, List.nil_append, hb, GV.get2, GV.get3, GV.get4, e1, e3, e4, e5, iarr_ld ht, iarr_ld hd, iarr_ld hc, hbld, hmk]
      have hsl := eown_len ho
      simp -implicitDefEqProofs (disch := first | assumption | exact id rfl | omega | (simp only [AHeap.alloc_n, AHeap.put_n, SV.put_n, AHeap.kill_n, ne_eq, List.length_cons, List.length_nil]; omega)) only [appO_one (bytes := 32) (ds := E4.cs ⟨c, x.t.getD i 0, x.d.getD i 0, x.c.getD i 0⟩) ho rfl (by omega) (by omega), s_l5edges_26, SXs, cond_true, cond_false, env0, List.getElem?_cons_zero, List.getElem?_cons_succ, Nat.reduceEqDiff, if_true, if_false, ↓reduceIte, Nat.reduceAdd, Nat.zero_add, Nat.add_zero, Nat.mul_one, reduceCtorEq, e5]
      have ho2 := app1_own (ds := E4.cs ⟨c, x.t.getD i 0, x.d.getD i 0, x.c.getD i 0⟩) ho rfl
      refine ⟨m - 1, by omega, i + 1, by omega, by omega, by omega, e4, rfl, e1, hE.app1 (fun b hb => hoff b (by omega)), ?_, _, es ++ [⟨c, x.t.getD i 0, x.d.getD i 0, x.c.getD i 0⟩], rfl, ?_, by simp [hel], by omega, fun b hbb => ?_, fun k hk => ?_⟩
      · have := hE.1
        rw [app1_get (by have := AHeap.lt_of hb (by simp); omega) (hoff _ (by omega)), hb]
      · show Own _ _ _ _ _
        rw [ecells_app]
        exact ho2
      · have := AHeap.lt_of hb (by simp)
        have := hE.1
        simp only [SV.off]; omega
      · by_cases hki : k = i
        · subst hki
          exact ⟨c, by omega, by omega, h, by simp [← hel]⟩
        · obtain ⟨c', q1, q2, q3, q4⟩ := hget k (by omega)
          exact ⟨c', q1, q2, q3, by rw [List.getElem?_append_left (by omega)]; exact q4⟩
    · have hii : (i : Int) = x.s.getD (c + 1) 0 := by omega
      simp -implicitDefEqProofs (disch := first | assumption | exact id rfl | omega | (simp only [AHeap.alloc_n, AHeap.put_n, SV.put_n, AHeap.kill_n, ne_eq, List.length_cons, List.length_nil]; omega)) only [s_l5edges_27, SXs, cond_true, cond_false, env0, List.getElem?_cons_zero, List.getElem?_cons_succ, Nat.reduceEqDiff, if_true, if_false, ↓reduceIte, Nat.reduceAdd, Nat.zero_add, Nat.add_zero, Nat.mul_one, reduceCtorEq, e4]
      exact ⟨_, by omega, c + 1, i, rfl, by omega, rfl, hii.symm, e1, hE, hb, s, es, e3, ho, hel, hit, hoff, hget⟩
  · have hcN : c = N := by omega
    simp -implicitDefEqProofs (disch := first | assumption | exact id rfl | omega | (simp only [AHeap.alloc_n, AHeap.put_n, SV.put_n, AHeap.kill_n, ne_eq, List.length_cons, List.length_nil]; omega)) only [s_l5edges_28, s_l5edges_29, SXs, cond_true, cond_false, env0, List.getElem?_cons_zero, List.getElem?_cons_succ, Nat.reduceEqDiff, if_true, if_false, ↓reduceIte, Nat.reduceAdd, Nat.zero_add, Nat.add_zero, Nat.mul_one, reduceCtorEq, e3, aop_ld, aop_ldn, bodyK_ret, bodyK_normal, resL, resV, Option.map_some, oneV, blockK_exit, seqK_exit, seqK_ret, blockK_ret, loopK_exit, loopK_ret, rs_s_l5edges]
    have hi : i = x.t.length := by rw [hcN] at hsi; omega
    subst hi
    exact ⟨s, es, rfl, ho, ⟨hel, hget⟩, hE, fun b hb => hoff b (by omega)⟩
end Go.AB
