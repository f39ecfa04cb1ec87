/- The laws' own small functions: graphs. -/
import Derived.Test.YtnbamdhmhnhneaaB18
import Derived.Test.YtnbamdhmhnhneaaT1
set_option linter.unusedVariables false
set_option linter.unusedSimpArgs false
set_option maxRecDepth 10000
namespace Go.AB
open Go.Proofs
variable {w0 : World} {H : AHeap}

structure GV where
  n : Int
  s : SV
  t : SV
  d : SV
  c : SV
def GV.cs (g : GV) : List Value := [iv g.n, g.s.v, g.t.v, g.d.v, g.c.v]
abbrev GV.v (g : GV) : Value := .agg g.cs.toArray
theorem GV.cs_len {g : GV} : g.cs.length = 5 := rfl
theorem GV.get0 {g : GV} : g.cs[0]? = some (iv g.n) := rfl
theorem GV.get1 {g : GV} : g.cs[1]? = some g.s.v := rfl
theorem GV.get2 {g : GV} : g.cs[2]? = some g.t.v := rfl
theorem GV.get3 {g : GV} : g.cs[3]? = some g.d.v := rfl
theorem GV.get4 {g : GV} : g.cs[4]? = some g.c.v := rfl
structure GD where
  n : Int
  s : List Int
  t : List Int
  d : List Int
  c : List Int
  deriving DecidableEq
structure GArr (H : AHeap) (g : GV) (x : GD) : Prop where
  n : g.n = x.n
  s : IArr H g.s x.s
  t : IArr H g.t x.t
  d : IArr H g.d x.d
  c : IArr H g.c x.c
structure GOwn (H : AHeap) (g : GV) (x : GD) : Prop where
  n : g.n = x.n
  s : IOwn H g.s x.s
  t : IOwn H g.t x.t
  d : IOwn H g.d x.d
  c : IOwn H g.c x.c
  st : g.s.apart g.t
  sd : g.s.apart g.d
  sc : g.s.apart g.c
  td : g.t.apart g.d
  tc : g.t.apart g.c
  dc : g.d.apart g.c
theorem GOwn.arr {g : GV} {x : GD} (h : GOwn H g x) : GArr H g x := ⟨h.n, h.s.arr, h.t.arr, h.d.arr, h.c.arr⟩
theorem GArr.ext {H' : AHeap} {g : GV} {x : GD} (h : GArr H g x) (k : Ext H H') : GArr H' g x := ⟨h.n, h.s.ext k, h.t.ext k, h.d.ext k, h.c.ext k⟩
theorem GOwn.ext {H' : AHeap} {g : GV} {x : GD} (h : GOwn H g x) (k : Ext H H') : GOwn H' g x := ⟨h.n, h.s.ext k, h.t.ext k, h.d.ext k, h.c.ext k, h.st, h.sd, h.sc, h.td, h.tc, h.dc⟩
def GD.size (x : GD) : Nat := x.s.length + x.t.length + x.d.length + x.c.length
def GV.off (g : GV) (b : Nat) : Prop := g.s.off b ∧ g.t.off b ∧ g.d.off b ∧ g.c.off b

theorem szGraph_rets {g : GV} {x : GD} {left : Int} (hg : GArr H g x) (hx : x.size ≤ 2 ^ 60) (hl : -1 ≤ left ∧ left ≤ 2 ^ 20) : Rets Go.Proofs.Try.prog w0 5 [g.v, iv left] H fun v H' => v = iv (if left - x.size < 0 then -1 else left - x.size) ∧ Ext H H' := by
  have l1 := iarr_len hg.s
  have l2 := iarr_len hg.t
  have l3 := iarr_len hg.d
  have l4 := iarr_len hg.c
  unfold GD.size at hx ⊢
  have hE : Ext H (H.alloc (.cells g.cs 24)) := Ext.alloc _ _
  refine rets_fun rfl cf_l_szGraph (body_of ?_)
  simp -implicitDefEqProofs (disch := first | assumption | exact id rfl | omega | (simp only [AHeap.alloc_n, AHeap.put_n, SV.put_n, AHeap.kill_n, ne_eq, List.length_cons, List.length_nil]; omega)) only [l_szGraph_0, l_szGraph_1, l_szGraph_2, l_szGraph_3, SXs, cond_true, cond_false, env0, List.getElem?_cons_zero, List.getElem?_cons_succ, Nat.reduceEqDiff, if_true, if_false, ↓reduceIte, Nat.reduceAdd, Nat.zero_add, Nat.add_zero, Nat.mul_one, reduceCtorEq, HXs, Option.map_some, List.length_cons, List.length_nil, List.take_succ_cons, List.take_zero, List.drop_succ_cons, List.drop_zero, List.cons_append, List.nil_append, GV.get1]
  refine (szIntS_rets (by omega) (by omega)).mono ?_
  rintro _ _ _ ⟨rfl, rfl⟩
  by_cases h0 : left - ↑g.s.len < 0
  · rw [if_pos h0]
    simp -implicitDefEqProofs (disch := first | assumption | exact id rfl | omega | (simp only [AHeap.alloc_n, AHeap.put_n, SV.put_n, AHeap.kill_n, ne_eq, List.length_cons, List.length_nil]; omega)) only [l_szGraph_4, l_szGraph_5, l_szGraph_6, l_szGraph_7, CW_cond, SXs, cond_true, cond_false, env0, List.getElem?_cons_zero, List.getElem?_cons_succ, Nat.reduceEqDiff, if_true, if_false, ↓reduceIte, Nat.reduceAdd, Nat.zero_add, Nat.add_zero, Nat.mul_one, reduceCtorEq]
    refine condK_of (fun h => ?_) (fun h => by simp at h)
    simp -implicitDefEqProofs (disch := first | assumption | exact id rfl | omega | (simp only [AHeap.alloc_n, AHeap.put_n, SV.put_n, AHeap.kill_n, ne_eq, List.length_cons, List.length_nil]; omega)) only [l_szGraph_8, l_szGraph_9, SXs, cond_true, cond_false, env0, List.getElem?_cons_zero, List.getElem?_cons_succ, Nat.reduceEqDiff, if_true, if_false, ↓reduceIte, Nat.reduceAdd, Nat.zero_add, Nat.add_zero, Nat.mul_one, reduceCtorEq, aop_ld, aop_ldn, bodyK_ret, bodyK_normal, resL, resV, Option.map_some, oneV, blockK_exit, seqK_exit, seqK_ret, blockK_ret, loopK_exit, loopK_ret, rs_l_szGraph]
    rw [if_pos (by omega)]; exact ⟨rfl, hE⟩
  rw [if_neg h0]
  simp -implicitDefEqProofs (disch := first | assumption | exact id rfl | omega | (simp only [AHeap.alloc_n, AHeap.put_n, SV.put_n, AHeap.kill_n, ne_eq, List.length_cons, List.length_nil]; omega)) only [l_szGraph_4, l_szGraph_5, l_szGraph_6, l_szGraph_7, CW_cond, SXs, cond_true, cond_false, env0, List.getElem?_cons_zero, List.getElem?_cons_succ, Nat.reduceEqDiff, if_true, if_false, ↓reduceIte, Nat.reduceAdd, Nat.zero_add, Nat.add_zero, Nat.mul_one, reduceCtorEq]
  refine condK_of (fun h => by simp at h; omega) (fun h => ?_)
  clear h
  simp -implicitDefEqProofs (disch := first | assumption | exact id rfl | omega | (simp only [AHeap.alloc_n, AHeap.put_n, SV.put_n, AHeap.kill_n, ne_eq, List.length_cons, List.length_nil]; omega)) only [l_szGraph_10, l_szGraph_11, SXs, cond_true, cond_false, env0, List.getElem?_cons_zero, List.getElem?_cons_succ, Nat.reduceEqDiff, if_true, if_false, ↓reduceIte, Nat.reduceAdd, Nat.zero_add, Nat.add_zero, Nat.mul_one, reduceCtorEq, HXs, Option.map_some, List.length_cons, List.length_nil, List.take_succ_cons, List.take_zero, List.drop_succ_cons, List.drop_zero, List.cons_append, List.nil_append, GV.get2]
  refine (szIntS_rets (by omega) (by omega)).mono ?_
  rintro _ _ _ ⟨rfl, rfl⟩
  by_cases h1 : left - ↑g.s.len - ↑g.t.len < 0
  · rw [if_pos h1]
    simp -implicitDefEqProofs (disch := first | assumption | exact id rfl | omega | (simp only [AHeap.alloc_n, AHeap.put_n, SV.put_n, AHeap.kill_n, ne_eq, List.length_cons, List.length_nil]; omega)) only [l_szGraph_12, l_szGraph_13, l_szGraph_14, l_szGraph_15, CW_cond, SXs, cond_true, cond_false, env0, List.getElem?_cons_zero, List.getElem?_cons_succ, Nat.reduceEqDiff, if_true, if_false, ↓reduceIte, Nat.reduceAdd, Nat.zero_add, Nat.add_zero, Nat.mul_one, reduceCtorEq]
    refine condK_of (fun h => ?_) (fun h => by simp at h)
    simp -implicitDefEqProofs (disch := first | assumption | exact id rfl | omega | (simp only [AHeap.alloc_n, AHeap.put_n, SV.put_n, AHeap.kill_n, ne_eq, List.length_cons, List.length_nil]; omega)) only [l_szGraph_16, l_szGraph_17, SXs, cond_true, cond_false, env0, List.getElem?_cons_zero, List.getElem?_cons_succ, Nat.reduceEqDiff, if_true, if_false, ↓reduceIte, Nat.reduceAdd, Nat.zero_add, Nat.add_zero, Nat.mul_one, reduceCtorEq, aop_ld, aop_ldn, bodyK_ret, bodyK_normal, resL, resV, Option.map_some, oneV, blockK_exit, seqK_exit, seqK_ret, blockK_ret, loopK_exit, loopK_ret, rs_l_szGraph]
    rw [if_pos (by omega)]; exact ⟨rfl, hE⟩
  rw [if_neg h1]
  simp -implicitDefEqProofs (disch := first | assumption | exact id rfl | omega | (simp only [AHeap.alloc_n, AHeap.put_n, SV.put_n, AHeap.kill_n, ne_eq, List.length_cons, List.length_nil]; omega)) only [l_szGraph_12, l_szGraph_13, l_szGraph_14, l_szGraph_15, CW_cond, SXs, cond_true, cond_false, env0, List.getElem?_cons_zero, List.getElem?_cons_succ, Nat.reduceEqDiff, if_true, if_false, ↓reduceIte, Nat.reduceAdd, Nat.zero_add, Nat.add_zero, Nat.mul_one, reduceCtorEq]
  refine condK_of (fun h => by simp at h; omega) (fun h => ?_)
  clear h
  simp -implicitDefEqProofs (disch := first | assumption | exact id rfl | omega | (simp only [AHeap.alloc_n, AHeap.put_n, SV.put_n, AHeap.kill_n, ne_eq, List.length_cons, List.length_nil]; omega)) only [l_szGraph_18, l_szGraph_19, SXs, cond_true, cond_false, env0, List.getElem?_cons_zero, List.getElem?_cons_succ, Nat.reduceEqDiff, if_true, if_false, ↓reduceIte, Nat.reduceAdd, Nat.zero_add, Nat.add_zero, Nat.mul_one, reduceCtorEq, HXs, Option.map_some, List.length_cons, List.length_nil, List.take_succ_cons, List.take_zero, List.drop_succ_cons, List.drop_zero, List.cons_append, List.nil_append, GV.get3]
  refine (szIntS_rets (by omega) (by omega)).mono ?_
  rintro _ _ _ ⟨rfl, rfl⟩
  by_cases h2 : left - ↑g.s.len - ↑g.t.len - ↑g.d.len < 0
  · rw [if_pos h2]
    simp -implicitDefEqProofs (disch := first | assumption | exact id rfl | omega | (simp only [AHeap.alloc_n, AHeap.put_n, SV.put_n, AHeap.kill_n, ne_eq, List.length_cons, List.length_nil]; omega)) only [l_szGraph_20, l_szGraph_21, l_szGraph_22, l_szGraph_23, CW_cond, SXs, cond_true, cond_false, env0, List.getElem?_cons_zero, List.getElem?_cons_succ, Nat.reduceEqDiff, if_true, if_false, ↓reduceIte, Nat.reduceAdd, Nat.zero_add, Nat.add_zero, Nat.mul_one, reduceCtorEq]
    refine condK_of (fun h => ?_) (fun h => by simp at h)
    simp -implicitDefEqProofs (disch := first | assumption | exact id rfl | omega | (simp only [AHeap.alloc_n, AHeap.put_n, SV.put_n, AHeap.kill_n, ne_eq, List.length_cons, List.length_nil]; omega)) only [l_szGraph_24, l_szGraph_25, SXs, cond_true, cond_false, env0, List.getElem?_cons_zero, List.getElem?_cons_succ, Nat.reduceEqDiff, if_true, if_false, ↓reduceIte, Nat.reduceAdd, Nat.zero_add, Nat.add_zero, Nat.mul_one, reduceCtorEq, aop_ld, aop_ldn, bodyK_ret, bodyK_normal, resL, resV, Option.map_some, oneV, blockK_exit, seqK_exit, seqK_ret, blockK_ret, loopK_exit, loopK_ret, rs_l_szGraph]
    rw [if_pos (by omega)]; exact ⟨rfl, hE⟩
  rw [if_neg h2]
  simp -implicitDefEqProofs (disch := first | assumption | exact id rfl | omega | (simp only [AHeap.alloc_n, AHeap.put_n, SV.put_n, AHeap.kill_n, ne_eq, List.length_cons, List.length_nil]; omega)) only [l_szGraph_20, l_szGraph_21, l_szGraph_22, l_szGraph_23, CW_cond, SXs, cond_true, cond_false, env0, List.getElem?_cons_zero, List.getElem?_cons_succ, Nat.reduceEqDiff, if_true, if_false, ↓reduceIte, Nat.reduceAdd, Nat.zero_add, Nat.add_zero, Nat.mul_one, reduceCtorEq]
  refine condK_of (fun h => by simp at h; omega) (fun h => ?_)
  clear h
  simp -implicitDefEqProofs (disch := first | assumption | exact id rfl | omega | (simp only [AHeap.alloc_n, AHeap.put_n, SV.put_n, AHeap.kill_n, ne_eq, List.length_cons, List.length_nil]; omega)) only [l_szGraph_26, l_szGraph_27, SXs, cond_true, cond_false, env0, List.getElem?_cons_zero, List.getElem?_cons_succ, Nat.reduceEqDiff, if_true, if_false, ↓reduceIte, Nat.reduceAdd, Nat.zero_add, Nat.add_zero, Nat.mul_one, reduceCtorEq, HXs, Option.map_some, List.length_cons, List.length_nil, List.take_succ_cons, List.take_zero, List.drop_succ_cons, List.drop_zero, List.cons_append, List.nil_append, GV.get4]
  refine (szIntS_rets (by omega) (by omega)).mono ?_
  rintro _ _ _ ⟨rfl, rfl⟩
  by_cases h3 : left - ↑g.s.len - ↑g.t.len - ↑g.d.len - ↑g.c.len < 0
  · rw [if_pos h3]
    simp -implicitDefEqProofs (disch := first | assumption | exact id rfl | omega | (simp only [AHeap.alloc_n, AHeap.put_n, SV.put_n, AHeap.kill_n, ne_eq, List.length_cons, List.length_nil]; omega)) only [l_szGraph_28, l_szGraph_29, l_szGraph_30, l_szGraph_31, CW_cond, SXs, cond_true, cond_false, env0, List.getElem?_cons_zero, List.getElem?_cons_succ, Nat.reduceEqDiff, if_true, if_false, ↓reduceIte, Nat.reduceAdd, Nat.zero_add, Nat.add_zero, Nat.mul_one, reduceCtorEq]
    refine condK_of (fun h => ?_) (fun h => by simp at h)
    simp -implicitDefEqProofs (disch := first | assumption | exact id rfl | omega | (simp only [AHeap.alloc_n, AHeap.put_n, SV.put_n, AHeap.kill_n, ne_eq, List.length_cons, List.length_nil]; omega)) only [l_szGraph_32, l_szGraph_33, SXs, cond_true, cond_false, env0, List.getElem?_cons_zero, List.getElem?_cons_succ, Nat.reduceEqDiff, if_true, if_false, ↓reduceIte, Nat.reduceAdd, Nat.zero_add, Nat.add_zero, Nat.mul_one, reduceCtorEq, aop_ld, aop_ldn, bodyK_ret, bodyK_normal, resL, resV, Option.map_some, oneV, blockK_exit, seqK_exit, seqK_ret, blockK_ret, loopK_exit, loopK_ret, rs_l_szGraph]
    rw [if_pos (by omega)]; exact ⟨rfl, hE⟩
  rw [if_neg h3]
  simp -implicitDefEqProofs (disch := first | assumption | exact id rfl | omega | (simp only [AHeap.alloc_n, AHeap.put_n, SV.put_n, AHeap.kill_n, ne_eq, List.length_cons, List.length_nil]; omega)) only [l_szGraph_28, l_szGraph_29, l_szGraph_30, l_szGraph_31, CW_cond, SXs, cond_true, cond_false, env0, List.getElem?_cons_zero, List.getElem?_cons_succ, Nat.reduceEqDiff, if_true, if_false, ↓reduceIte, Nat.reduceAdd, Nat.zero_add, Nat.add_zero, Nat.mul_one, reduceCtorEq]
  refine condK_of (fun h => by simp at h; omega) (fun h => ?_)
  clear h
  simp -implicitDefEqProofs (disch := first | assumption | exact id rfl | omega | (simp only [AHeap.alloc_n, AHeap.put_n, SV.put_n, AHeap.kill_n, ne_eq, List.length_cons, List.length_nil]; omega)) only [l_szGraph_34, l_szGraph_35, SXs, cond_true, cond_false, env0, List.getElem?_cons_zero, List.getElem?_cons_succ, Nat.reduceEqDiff, if_true, if_false, ↓reduceIte, Nat.reduceAdd, Nat.zero_add, Nat.add_zero, Nat.mul_one, reduceCtorEq, aop_ld, aop_ldn, bodyK_ret, bodyK_normal, resL, resV, Option.map_some, oneV, blockK_exit, seqK_exit, seqK_ret, blockK_ret, loopK_exit, loopK_ret, rs_l_szGraph]
  rw [if_neg (by omega)]
  refine ⟨?_, hE⟩
  congr 1; omega

theorem toGraph_rets {g : GV} {x : GD} (hg : GArr H g x) (hx : x.size ≤ 2 ^ 40) : Rets Go.Proofs.Try.prog w0 7 [g.v] H fun v H' => ∃ g' : GV, v = g'.v ∧ GOwn H' g' x ∧ Ext H H' ∧ ∀ b, b < H.n → g'.off b := by
  unfold GD.size at hx
  refine rets_fun rfl cf_l_toGraph (body_of ?_)
  simp -implicitDefEqProofs (disch := first | assumption | exact id rfl | omega | (simp only [AHeap.alloc_n, AHeap.put_n, SV.put_n, AHeap.kill_n, ne_eq, List.length_cons, List.length_nil]; omega)) only [l_toGraph_0, l_toGraph_1, l_toGraph_2, l_toGraph_3, l_toGraph_4, l_toGraph_5, l_toGraph_6, l_toGraph_7, SXs, cond_true, cond_false, env0, List.getElem?_cons_zero, List.getElem?_cons_succ, Nat.reduceEqDiff, if_true, if_false, ↓reduceIte, Nat.reduceAdd, Nat.zero_add, Nat.add_zero, Nat.mul_one, reduceCtorEq, HXs, Option.map_some, List.length_cons, List.length_nil, List.take_succ_cons, List.take_zero, List.drop_succ_cons, List.drop_zero, List.cons_append, List.nil_append, GV.get0, GV.get1, GV.cs_len]
  have hE : Ext H ((((H.alloc (.cells g.cs 24)).alloc (.cells [.int .i64 0, .slice none 0 0, .slice none 0 0, .slice none 0 0, .slice none 0 0] 28)).alloc (.cells [.int .i64 0, .slice none 0 0, .slice none 0 0, .slice none 0 0, .slice none 0 0] 28)).put (H.n + 1 + 1) 0 [iv g.n]) := by
    refine Ext.put ?_ (by omega)
    exact (((Ext.refl H).allocs _).allocs _).allocs _
  generalize hG : AHeap.put _ _ _ _ = G at hE
  have hn : G.n = H.n + 3 := by rw [← hG, AHeap.put_n]; rfl
  have hc : G.get (H.n + 2) = .cells [iv g.n, .slice none 0 0, .slice none 0 0, .slice none 0 0, .slice none 0 0] 28 := by
    rw [← hG]; simp -implicitDefEqProofs (disch := first | assumption | exact id rfl | omega | (simp only [AHeap.alloc_n, AHeap.put_n, SV.put_n, AHeap.kill_n, ne_eq, List.length_cons, List.length_nil]; omega)) only [HXs, Option.map_some, List.length_cons, List.length_nil, List.take_succ_cons, List.take_zero, List.drop_succ_cons, List.drop_zero, List.cons_append, List.nil_append]
  have hb0 : G.get H.n = .cells g.cs 24 := by rw [← hG]; simp -implicitDefEqProofs (disch := first | assumption | exact id rfl | omega | (simp only [AHeap.alloc_n, AHeap.put_n, SV.put_n, AHeap.kill_n, ne_eq, List.length_cons, List.length_nil]; omega)) only [HXs, Option.map_some, List.length_cons, List.length_nil, List.take_succ_cons, List.take_zero, List.drop_succ_cons, List.drop_zero, List.cons_append, List.nil_append]
  have hb1 : ∃ us, us.length = 5 ∧ G.get (H.n + 1) = .cells us 28 := by
    rw [← hG]; simp -implicitDefEqProofs (disch := first | assumption | exact id rfl | omega | (simp only [AHeap.alloc_n, AHeap.put_n, SV.put_n, AHeap.kill_n, ne_eq, List.length_cons, List.length_nil]; omega)) only [HXs, Option.map_some, List.length_cons, List.length_nil, List.take_succ_cons, List.take_zero, List.drop_succ_cons, List.drop_zero, List.cons_append, List.nil_append]; exact ⟨_, rfl, rfl⟩
  clear hG
  refine (toIntS_rets (hg.s.ext hE) (by omega)).mono ?_
  rintro _ G1a _ ⟨rfl, ho0, hna, hga⟩
  have hEa : Ext G G1a := ⟨by omega, fun b hb => hga b hb⟩
  rw [hn] at ho0 hna hga
  have hca : G1a.get (H.n + 2) = .cells [iv g.n, .slice none 0 0, .slice none 0 0, .slice none 0 0, .slice none 0 0] 28 := by rw [hga _ (by omega), hc]
  have hba : G1a.get H.n = .cells g.cs 24 := by rw [hga _ (by omega), hb0]
  have hb1a : ∃ us, us.length = 5 ∧ G1a.get (H.n + 1) = .cells us 28 := by rw [hga _ (by omega)]; exact hb1
  clear hc hb0 hb1
  simp -implicitDefEqProofs (disch := first | assumption | exact id rfl | omega | (simp only [AHeap.alloc_n, AHeap.put_n, SV.put_n, AHeap.kill_n, ne_eq, List.length_cons, List.length_nil]; omega)) only [hn, l_toGraph_8, l_toGraph_9, SXs, cond_true, cond_false, env0, List.getElem?_cons_zero, List.getElem?_cons_succ, Nat.reduceEqDiff, if_true, if_false, ↓reduceIte, Nat.reduceAdd, Nat.zero_add, Nat.add_zero, Nat.mul_one, reduceCtorEq, HXs, Option.map_some, List.length_cons, List.length_nil, List.take_succ_cons, List.take_zero, List.drop_succ_cons, List.drop_zero, List.cons_append, List.nil_append, hca, hba, GV.get0, GV.get1, GV.get2, GV.get3, GV.get4, GV.cs_len]
  replace ho0 := ho0.put' (b := H.n + 1 + 1) (off := 1) (vs := [(SV.at (H.n + 3) 0 x.s.length).v]) (by simp only [SV.off]; omega)
  replace hE := Ext.put (b := H.n + 1 + 1) (off := 1) (vs := [(SV.at (H.n + 3) 0 x.s.length).v]) (hE.trans hEa) (by omega)
  have hc : (G1a.put (H.n + 1 + 1) 1 [(SV.at (H.n + 3) 0 x.s.length).v]).get (H.n + 2) = .cells [iv g.n, (SV.at (H.n + 3) 0 x.s.length).v, .slice none 0 0, .slice none 0 0, .slice none 0 0] 28 := by
    rw [show H.n + 2 = H.n + 1 + 1 from rfl] at hca ⊢
    rw [put_at, hca]; rfl
  have hb0 : (G1a.put (H.n + 1 + 1) 1 [(SV.at (H.n + 3) 0 x.s.length).v]).get H.n = .cells g.cs 24 := by rw [AHeap.put_ne (by omega), hba]
  have hb1 : ∃ us, us.length = 5 ∧ (G1a.put (H.n + 1 + 1) 1 [(SV.at (H.n + 3) 0 x.s.length).v]).get (H.n + 1) = .cells us 28 := by
    rw [AHeap.put_ne (by omega)]; exact hb1a
  replace hn : (G1a.put (H.n + 1 + 1) 1 [(SV.at (H.n + 3) 0 x.s.length).v]).n = H.n + 4 := by rw [AHeap.put_n, hna]
  clear hga hEa hca hba hb1a hna
  generalize G1a.put (H.n + 1 + 1) 1 [(SV.at (H.n + 3) 0 x.s.length).v] = G1 at *
  refine (toIntS_rets (hg.t.ext hE) (by omega)).mono ?_
  rintro _ G2a _ ⟨rfl, ho1, hna, hga⟩
  have hEa : Ext G1 G2a := ⟨by omega, fun b hb => hga b hb⟩
  rw [hn] at ho1 hna hga
  have hca : G2a.get (H.n + 2) = .cells [iv g.n, (SV.at (H.n + 3) 0 x.s.length).v, .slice none 0 0, .slice none 0 0, .slice none 0 0] 28 := by rw [hga _ (by omega), hc]
  have hba : G2a.get H.n = .cells g.cs 24 := by rw [hga _ (by omega), hb0]
  have hb1a : ∃ us, us.length = 5 ∧ G2a.get (H.n + 1) = .cells us 28 := by rw [hga _ (by omega)]; exact hb1
  clear hc hb0 hb1
  simp -implicitDefEqProofs (disch := first | assumption | exact id rfl | omega | (simp only [AHeap.alloc_n, AHeap.put_n, SV.put_n, AHeap.kill_n, ne_eq, List.length_cons, List.length_nil]; omega)) only [hn, l_toGraph_10, l_toGraph_11, SXs, cond_true, cond_false, env0, List.getElem?_cons_zero, List.getElem?_cons_succ, Nat.reduceEqDiff, if_true, if_false, ↓reduceIte, Nat.reduceAdd, Nat.zero_add, Nat.add_zero, Nat.mul_one, reduceCtorEq, HXs, Option.map_some, List.length_cons, List.length_nil, List.take_succ_cons, List.take_zero, List.drop_succ_cons, List.drop_zero, List.cons_append, List.nil_append, hca, hba, GV.get0, GV.get1, GV.get2, GV.get3, GV.get4, GV.cs_len]
  replace ho0 := (ho0.ext hEa).put' (b := H.n + 1 + 1) (off := 2) (vs := [(SV.at (H.n + 4) 0 x.t.length).v]) (by simp only [SV.off]; omega)
  replace ho1 := ho1.put' (b := H.n + 1 + 1) (off := 2) (vs := [(SV.at (H.n + 4) 0 x.t.length).v]) (by simp only [SV.off]; omega)
  replace hE := Ext.put (b := H.n + 1 + 1) (off := 2) (vs := [(SV.at (H.n + 4) 0 x.t.length).v]) (hE.trans hEa) (by omega)
  have hc : (G2a.put (H.n + 1 + 1) 2 [(SV.at (H.n + 4) 0 x.t.length).v]).get (H.n + 2) = .cells [iv g.n, (SV.at (H.n + 3) 0 x.s.length).v, (SV.at (H.n + 4) 0 x.t.length).v, .slice none 0 0, .slice none 0 0] 28 := by
    rw [show H.n + 2 = H.n + 1 + 1 from rfl] at hca ⊢
    rw [put_at, hca]; rfl
  have hb0 : (G2a.put (H.n + 1 + 1) 2 [(SV.at (H.n + 4) 0 x.t.length).v]).get H.n = .cells g.cs 24 := by rw [AHeap.put_ne (by omega), hba]
  have hb1 : ∃ us, us.length = 5 ∧ (G2a.put (H.n + 1 + 1) 2 [(SV.at (H.n + 4) 0 x.t.length).v]).get (H.n + 1) = .cells us 28 := by
    rw [AHeap.put_ne (by omega)]; exact hb1a
  replace hn : (G2a.put (H.n + 1 + 1) 2 [(SV.at (H.n + 4) 0 x.t.length).v]).n = H.n + 5 := by rw [AHeap.put_n, hna]
  clear hga hEa hca hba hb1a hna
  generalize G2a.put (H.n + 1 + 1) 2 [(SV.at (H.n + 4) 0 x.t.length).v] = G2 at *
  refine (toIntS_rets (hg.d.ext hE) (by omega)).mono ?_
  rintro _ G3a _ ⟨rfl, ho2, hna, hga⟩
  have hEa : Ext G2 G3a := ⟨by omega, fun b hb => hga b hb⟩
  rw [hn] at ho2 hna hga
  have hca : G3a.get (H.n + 2) = .cells [iv g.n, (SV.at (H.n + 3) 0 x.s.length).v, (SV.at (H.n + 4) 0 x.t.length).v, .slice none 0 0, .slice none 0 0] 28 := by rw [hga _ (by omega), hc]
  have hba : G3a.get H.n = .cells g.cs 24 := by rw [hga _ (by omega), hb0]
  have hb1a : ∃ us, us.length = 5 ∧ G3a.get (H.n + 1) = .cells us 28 := by rw [hga _ (by omega)]; exact hb1
  clear hc hb0 hb1
  simp -implicitDefEqProofs (disch := first | assumption | exact id rfl | omega | (simp only [AHeap.alloc_n, AHeap.put_n, SV.put_n, AHeap.kill_n, ne_eq, List.length_cons, List.length_nil]; omega)) only [hn, l_toGraph_12, l_toGraph_13, SXs, cond_true, cond_false, env0, List.getElem?_cons_zero, List.getElem?_cons_succ, Nat.reduceEqDiff, if_true, if_false, ↓reduceIte, Nat.reduceAdd, Nat.zero_add, Nat.add_zero, Nat.mul_one, reduceCtorEq, HXs, Option.map_some, List.length_cons, List.length_nil, List.take_succ_cons, List.take_zero, List.drop_succ_cons, List.drop_zero, List.cons_append, List.nil_append, hca, hba, GV.get0, GV.get1, GV.get2, GV.get3, GV.get4, GV.cs_len]
  replace ho0 := (ho0.ext hEa).put' (b := H.n + 1 + 1) (off := 3) (vs := [(SV.at (H.n + 5) 0 x.d.length).v]) (by simp only [SV.off]; omega)
  replace ho1 := (ho1.ext hEa).put' (b := H.n + 1 + 1) (off := 3) (vs := [(SV.at (H.n + 5) 0 x.d.length).v]) (by simp only [SV.off]; omega)
  replace ho2 := ho2.put' (b := H.n + 1 + 1) (off := 3) (vs := [(SV.at (H.n + 5) 0 x.d.length).v]) (by simp only [SV.off]; omega)
  replace hE := Ext.put (b := H.n + 1 + 1) (off := 3) (vs := [(SV.at (H.n + 5) 0 x.d.length).v]) (hE.trans hEa) (by omega)
  have hc : (G3a.put (H.n + 1 + 1) 3 [(SV.at (H.n + 5) 0 x.d.length).v]).get (H.n + 2) = .cells [iv g.n, (SV.at (H.n + 3) 0 x.s.length).v, (SV.at (H.n + 4) 0 x.t.length).v, (SV.at (H.n + 5) 0 x.d.length).v, .slice none 0 0] 28 := by
    rw [show H.n + 2 = H.n + 1 + 1 from rfl] at hca ⊢
    rw [put_at, hca]; rfl
  have hb0 : (G3a.put (H.n + 1 + 1) 3 [(SV.at (H.n + 5) 0 x.d.length).v]).get H.n = .cells g.cs 24 := by rw [AHeap.put_ne (by omega), hba]
  have hb1 : ∃ us, us.length = 5 ∧ (G3a.put (H.n + 1 + 1) 3 [(SV.at (H.n + 5) 0 x.d.length).v]).get (H.n + 1) = .cells us 28 := by
    rw [AHeap.put_ne (by omega)]; exact hb1a
  replace hn : (G3a.put (H.n + 1 + 1) 3 [(SV.at (H.n + 5) 0 x.d.length).v]).n = H.n + 6 := by rw [AHeap.put_n, hna]
  clear hga hEa hca hba hb1a hna
  generalize G3a.put (H.n + 1 + 1) 3 [(SV.at (H.n + 5) 0 x.d.length).v] = G3 at *
  refine (toIntS_rets (hg.c.ext hE) (by omega)).mono ?_
  rintro _ G4a _ ⟨rfl, ho3, hna, hga⟩
  have hEa : Ext G3 G4a := ⟨by omega, fun b hb => hga b hb⟩
  rw [hn] at ho3 hna hga
  have hca : G4a.get (H.n + 2) = .cells [iv g.n, (SV.at (H.n + 3) 0 x.s.length).v, (SV.at (H.n + 4) 0 x.t.length).v, (SV.at (H.n + 5) 0 x.d.length).v, .slice none 0 0] 28 := by rw [hga _ (by omega), hc]
  have hba : G4a.get H.n = .cells g.cs 24 := by rw [hga _ (by omega), hb0]
  have hb1a : ∃ us, us.length = 5 ∧ G4a.get (H.n + 1) = .cells us 28 := by rw [hga _ (by omega)]; exact hb1
  clear hc hb0 hb1
  obtain ⟨us, hul, hb1a⟩ := hb1a
  simp -implicitDefEqProofs (disch := first | assumption | exact id rfl | omega | (simp only [AHeap.alloc_n, AHeap.put_n, SV.put_n, AHeap.kill_n, ne_eq, List.length_cons, List.length_nil]; omega)) only [hn, l_toGraph_14, l_toGraph_15, SXs, cond_true, cond_false, env0, List.getElem?_cons_zero, List.getElem?_cons_succ, Nat.reduceEqDiff, if_true, if_false, ↓reduceIte, Nat.reduceAdd, Nat.zero_add, Nat.add_zero, Nat.mul_one, reduceCtorEq, HXs, Option.map_some, List.length_cons, List.length_nil, List.take_succ_cons, List.take_zero, List.drop_succ_cons, List.drop_zero, List.cons_append, List.nil_append, hca, hb1a, hul, aop_ld, aop_ldn, bodyK_ret, bodyK_normal, resL, resV, Option.map_some, oneV, blockK_exit, seqK_exit, seqK_ret, blockK_ret, loopK_exit, loopK_ret, rs_l_toGraph]
  replace ho0 := (ho0.ext hEa).put' (b := H.n + 1 + 1) (off := 4) (vs := [(SV.at (H.n + 6) 0 x.c.length).v]) (by simp only [SV.off]; omega)
  replace ho1 := (ho1.ext hEa).put' (b := H.n + 1 + 1) (off := 4) (vs := [(SV.at (H.n + 6) 0 x.c.length).v]) (by simp only [SV.off]; omega)
  replace ho2 := (ho2.ext hEa).put' (b := H.n + 1 + 1) (off := 4) (vs := [(SV.at (H.n + 6) 0 x.c.length).v]) (by simp only [SV.off]; omega)
  replace ho3 := ho3.put' (b := H.n + 1 + 1) (off := 4) (vs := [(SV.at (H.n + 6) 0 x.c.length).v]) (by simp only [SV.off]; omega)
  replace hE := Ext.put (b := H.n + 1 + 1) (off := 4) (vs := [(SV.at (H.n + 6) 0 x.c.length).v]) (hE.trans hEa) (by omega)
  refine ⟨⟨g.n, .at (H.n + 3) 0 x.s.length, .at (H.n + 4) 0 x.t.length, .at (H.n + 5) 0 x.d.length, .at (H.n + 6) 0 x.c.length⟩, rfl, ⟨hg.n, ho0.put' ?_, ho1.put' ?_, ho2.put' ?_, ho3.put' ?_, ?_, ?_, ?_, ?_, ?_, ?_⟩, hE.put (by omega), fun b hb => ?_⟩
  all_goals first | (simp only [SV.off]; omega) | (intro b; simp only [SV.off]; omega) | (simp only [GV.off, SV.off]; omega)

theorem eqGraph_rets {g k : GV} {x y : GD} (hg : GArr H g x) (hk : GArr H k y) (hx : x.size ≤ 2 ^ 60) : Rets Go.Proofs.Try.prog w0 10 [g.v, k.v] H fun v H' => v = .bool (decide (x = y)) ∧ Ext H H' := by
  unfold GD.size at hx
  have hE : Ext H ((H.alloc (.cells g.cs 28)).alloc (.cells k.cs 28)) := ((Ext.refl H).allocs _).allocs _
  have hg' := hg.ext hE
  have hk' := hk.ext hE
  have e1 := hg.n
  have e2 := hk.n
  refine rets_fun rfl cf_l_eqGraph (body_of ?_)
  simp -implicitDefEqProofs (disch := first | assumption | exact id rfl | omega | (simp only [AHeap.alloc_n, AHeap.put_n, SV.put_n, AHeap.kill_n, ne_eq, List.length_cons, List.length_nil]; omega)) only [l_eqGraph_0, l_eqGraph_1, l_eqGraph_2, l_eqGraph_3, l_eqGraph_4, l_eqGraph_5, CW_cond, SXs, cond_true, cond_false, env0, List.getElem?_cons_zero, List.getElem?_cons_succ, Nat.reduceEqDiff, if_true, if_false, ↓reduceIte, Nat.reduceAdd, Nat.zero_add, Nat.add_zero, Nat.mul_one, reduceCtorEq, HXs, Option.map_some, List.length_cons, List.length_nil, List.take_succ_cons, List.take_zero, List.drop_succ_cons, List.drop_zero, List.cons_append, List.nil_append, GV.get0]
  refine condK_of (fun h => ?_) (fun h => ?_)
  · have : x ≠ y := fun he => by subst he; rw [e1, e2] at h; simp at h
    simp -implicitDefEqProofs (disch := first | assumption | exact id rfl | omega | (simp only [AHeap.alloc_n, AHeap.put_n, SV.put_n, AHeap.kill_n, ne_eq, List.length_cons, List.length_nil]; omega)) only [l_eqGraph_6, l_eqGraph_7, SXs, cond_true, cond_false, env0, List.getElem?_cons_zero, List.getElem?_cons_succ, Nat.reduceEqDiff, if_true, if_false, ↓reduceIte, Nat.reduceAdd, Nat.zero_add, Nat.add_zero, Nat.mul_one, reduceCtorEq, aop_ld, aop_ldn, bodyK_ret, bodyK_normal, resL, resV, Option.map_some, oneV, blockK_exit, seqK_exit, seqK_ret, blockK_ret, loopK_exit, loopK_ret, rs_l_eqGraph]
    simp [this, hE]
  have hn : x.n = y.n := by rw [e1, e2] at h; simpa using h
  clear h
  simp -implicitDefEqProofs (disch := first | assumption | exact id rfl | omega | (simp only [AHeap.alloc_n, AHeap.put_n, SV.put_n, AHeap.kill_n, ne_eq, List.length_cons, List.length_nil]; omega)) only [l_eqGraph_8, l_eqGraph_9, l_eqGraph_10, SXs, cond_true, cond_false, env0, List.getElem?_cons_zero, List.getElem?_cons_succ, Nat.reduceEqDiff, if_true, if_false, ↓reduceIte, Nat.reduceAdd, Nat.zero_add, Nat.add_zero, Nat.mul_one, reduceCtorEq, HXs, Option.map_some, List.length_cons, List.length_nil, List.take_succ_cons, List.take_zero, List.drop_succ_cons, List.drop_zero, List.cons_append, List.nil_append, GV.get1]
  refine (eqIntS_rets hg'.s hk'.s (by omega)).mono ?_
  rintro _ _ _ ⟨rfl, rfl⟩
  simp -implicitDefEqProofs (disch := first | assumption | exact id rfl | omega | (simp only [AHeap.alloc_n, AHeap.put_n, SV.put_n, AHeap.kill_n, ne_eq, List.length_cons, List.length_nil]; omega)) only [l_eqGraph_11, CW_cond, SXs, cond_true, cond_false, env0, List.getElem?_cons_zero, List.getElem?_cons_succ, Nat.reduceEqDiff, if_true, if_false, ↓reduceIte, Nat.reduceAdd, Nat.zero_add, Nat.add_zero, Nat.mul_one, reduceCtorEq]
  refine condK_of (fun h => ?_) (fun h => ?_)
  · have : x ≠ y := fun he => by subst he; simp at h
    simp -implicitDefEqProofs (disch := first | assumption | exact id rfl | omega | (simp only [AHeap.alloc_n, AHeap.put_n, SV.put_n, AHeap.kill_n, ne_eq, List.length_cons, List.length_nil]; omega)) only [l_eqGraph_12, l_eqGraph_13, SXs, cond_true, cond_false, env0, List.getElem?_cons_zero, List.getElem?_cons_succ, Nat.reduceEqDiff, if_true, if_false, ↓reduceIte, Nat.reduceAdd, Nat.zero_add, Nat.add_zero, Nat.mul_one, reduceCtorEq, aop_ld, aop_ldn, bodyK_ret, bodyK_normal, resL, resV, Option.map_some, oneV, blockK_exit, seqK_exit, seqK_ret, blockK_ret, loopK_exit, loopK_ret, rs_l_eqGraph]
    simp [this, hE]
  have hs : x.s = y.s := by simpa using h
  clear h
  simp -implicitDefEqProofs (disch := first | assumption | exact id rfl | omega | (simp only [AHeap.alloc_n, AHeap.put_n, SV.put_n, AHeap.kill_n, ne_eq, List.length_cons, List.length_nil]; omega)) only [l_eqGraph_14, l_eqGraph_15, l_eqGraph_16, SXs, cond_true, cond_false, env0, List.getElem?_cons_zero, List.getElem?_cons_succ, Nat.reduceEqDiff, if_true, if_false, ↓reduceIte, Nat.reduceAdd, Nat.zero_add, Nat.add_zero, Nat.mul_one, reduceCtorEq, HXs, Option.map_some, List.length_cons, List.length_nil, List.take_succ_cons, List.take_zero, List.drop_succ_cons, List.drop_zero, List.cons_append, List.nil_append, GV.get2]
  refine (eqIntS_rets hg'.t hk'.t (by omega)).mono ?_
  rintro _ _ _ ⟨rfl, rfl⟩
  simp -implicitDefEqProofs (disch := first | assumption | exact id rfl | omega | (simp only [AHeap.alloc_n, AHeap.put_n, SV.put_n, AHeap.kill_n, ne_eq, List.length_cons, List.length_nil]; omega)) only [l_eqGraph_17, CW_cond, SXs, cond_true, cond_false, env0, List.getElem?_cons_zero, List.getElem?_cons_succ, Nat.reduceEqDiff, if_true, if_false, ↓reduceIte, Nat.reduceAdd, Nat.zero_add, Nat.add_zero, Nat.mul_one, reduceCtorEq]
  refine condK_of (fun h => ?_) (fun h => ?_)
  · have : x ≠ y := fun he => by subst he; simp at h
    simp -implicitDefEqProofs (disch := first | assumption | exact id rfl | omega | (simp only [AHeap.alloc_n, AHeap.put_n, SV.put_n, AHeap.kill_n, ne_eq, List.length_cons, List.length_nil]; omega)) only [l_eqGraph_18, l_eqGraph_19, SXs, cond_true, cond_false, env0, List.getElem?_cons_zero, List.getElem?_cons_succ, Nat.reduceEqDiff, if_true, if_false, ↓reduceIte, Nat.reduceAdd, Nat.zero_add, Nat.add_zero, Nat.mul_one, reduceCtorEq, aop_ld, aop_ldn, bodyK_ret, bodyK_normal, resL, resV, Option.map_some, oneV, blockK_exit, seqK_exit, seqK_ret, blockK_ret, loopK_exit, loopK_ret, rs_l_eqGraph]
    simp [this, hE]
  have ht : x.t = y.t := by simpa using h
  clear h
  simp -implicitDefEqProofs (disch := first | assumption | exact id rfl | omega | (simp only [AHeap.alloc_n, AHeap.put_n, SV.put_n, AHeap.kill_n, ne_eq, List.length_cons, List.length_nil]; omega)) only [l_eqGraph_20, l_eqGraph_21, l_eqGraph_22, SXs, cond_true, cond_false, env0, List.getElem?_cons_zero, List.getElem?_cons_succ, Nat.reduceEqDiff, if_true, if_false, ↓reduceIte, Nat.reduceAdd, Nat.zero_add, Nat.add_zero, Nat.mul_one, reduceCtorEq, HXs, Option.map_some, List.length_cons, List.length_nil, List.take_succ_cons, List.take_zero, List.drop_succ_cons, List.drop_zero, List.cons_append, List.nil_append, GV.get3]
  refine (eqIntS_rets hg'.d hk'.d (by omega)).mono ?_
  rintro _ _ _ ⟨rfl, rfl⟩
  simp -implicitDefEqProofs (disch := first | assumption | exact id rfl | omega | (simp only [AHeap.alloc_n, AHeap.put_n, SV.put_n, AHeap.kill_n, ne_eq, List.length_cons, List.length_nil]; omega)) only [l_eqGraph_23, CW_cond, SXs, cond_true, cond_false, env0, List.getElem?_cons_zero, List.getElem?_cons_succ, Nat.reduceEqDiff, if_true, if_false, ↓reduceIte, Nat.reduceAdd, Nat.zero_add, Nat.add_zero, Nat.mul_one, reduceCtorEq]
  refine condK_of (fun h => ?_) (fun h => ?_)
  · have : x ≠ y := fun he => by subst he; simp at h
    simp -implicitDefEqProofs (disch := first | assumption | exact id rfl | omega | (simp only [AHeap.alloc_n, AHeap.put_n, SV.put_n, AHeap.kill_n, ne_eq, List.length_cons, List.length_nil]; omega)) only [l_eqGraph_24, l_eqGraph_25, SXs, cond_true, cond_false, env0, List.getElem?_cons_zero, List.getElem?_cons_succ, Nat.reduceEqDiff, if_true, if_false, ↓reduceIte, Nat.reduceAdd, Nat.zero_add, Nat.add_zero, Nat.mul_one, reduceCtorEq, aop_ld, aop_ldn, bodyK_ret, bodyK_normal, resL, resV, Option.map_some, oneV, blockK_exit, seqK_exit, seqK_ret, blockK_ret, loopK_exit, loopK_ret, rs_l_eqGraph]
    simp [this, hE]
  have hd : x.d = y.d := by simpa using h
  clear h
  simp -implicitDefEqProofs (disch := first | assumption | exact id rfl | omega | (simp only [AHeap.alloc_n, AHeap.put_n, SV.put_n, AHeap.kill_n, ne_eq, List.length_cons, List.length_nil]; omega)) only [l_eqGraph_26, l_eqGraph_27, l_eqGraph_28, SXs, cond_true, cond_false, env0, List.getElem?_cons_zero, List.getElem?_cons_succ, Nat.reduceEqDiff, if_true, if_false, ↓reduceIte, Nat.reduceAdd, Nat.zero_add, Nat.add_zero, Nat.mul_one, reduceCtorEq, HXs, Option.map_some, List.length_cons, List.length_nil, List.take_succ_cons, List.take_zero, List.drop_succ_cons, List.drop_zero, List.cons_append, List.nil_append, GV.get4]
  refine (eqIntS_rets hg'.c hk'.c (by omega)).mono ?_
  rintro _ _ _ ⟨rfl, rfl⟩
  simp -implicitDefEqProofs (disch := first | assumption | exact id rfl | omega | (simp only [AHeap.alloc_n, AHeap.put_n, SV.put_n, AHeap.kill_n, ne_eq, List.length_cons, List.length_nil]; omega)) only [l_eqGraph_29, CW_cond, SXs, cond_true, cond_false, env0, List.getElem?_cons_zero, List.getElem?_cons_succ, Nat.reduceEqDiff, if_true, if_false, ↓reduceIte, Nat.reduceAdd, Nat.zero_add, Nat.add_zero, Nat.mul_one, reduceCtorEq]
  refine condK_of (fun h => ?_) (fun h => ?_)
  · have : x ≠ y := fun he => by subst he; simp at h
    simp -implicitDefEqProofs (disch := first | assumption | exact id rfl | omega | (simp only [AHeap.alloc_n, AHeap.put_n, SV.put_n, AHeap.kill_n, ne_eq, List.length_cons, List.length_nil]; omega)) only [l_eqGraph_30, l_eqGraph_31, SXs, cond_true, cond_false, env0, List.getElem?_cons_zero, List.getElem?_cons_succ, Nat.reduceEqDiff, if_true, if_false, ↓reduceIte, Nat.reduceAdd, Nat.zero_add, Nat.add_zero, Nat.mul_one, reduceCtorEq, aop_ld, aop_ldn, bodyK_ret, bodyK_normal, resL, resV, Option.map_some, oneV, blockK_exit, seqK_exit, seqK_ret, blockK_ret, loopK_exit, loopK_ret, rs_l_eqGraph]
    simp [this, hE]
  have hc : x.c = y.c := by simpa using h
  clear h
  simp -implicitDefEqProofs (disch := first | assumption | exact id rfl | omega | (simp only [AHeap.alloc_n, AHeap.put_n, SV.put_n, AHeap.kill_n, ne_eq, List.length_cons, List.length_nil]; omega)) only [l_eqGraph_32, l_eqGraph_33, SXs, cond_true, cond_false, env0, List.getElem?_cons_zero, List.getElem?_cons_succ, Nat.reduceEqDiff, if_true, if_false, ↓reduceIte, Nat.reduceAdd, Nat.zero_add, Nat.add_zero, Nat.mul_one, reduceCtorEq, aop_ld, aop_ldn, bodyK_ret, bodyK_normal, resL, resV, Option.map_some, oneV, blockK_exit, seqK_exit, seqK_ret, blockK_ret, loopK_exit, loopK_ret, rs_l_eqGraph]
  have : x = y := by cases x; cases y; simp_all
  simp [this, hE]

theorem markGraph_rets {g : GV} {x : GD} {k : Nat} (hg : GOwn H g x) (hx : x.size ≤ 2 ^ 40) (hk : k ≤ 2 ^ 40) : Rets Go.Proofs.Try.prog w0 11 [g.v, iv k] H fun v H' => v = iv ((k + x.size : Nat) : Int) ∧ H.n ≤ H'.n ∧ ∀ b, b < H.n → g.off b → H'.get b = H.get b := by
  unfold GD.size at hx ⊢
  refine rets_fun rfl cf_l_markGraph (body_of ?_)
  simp -implicitDefEqProofs (disch := first | assumption | exact id rfl | omega | (simp only [AHeap.alloc_n, AHeap.put_n, SV.put_n, AHeap.kill_n, ne_eq, List.length_cons, List.length_nil]; omega)) only [l_markGraph_0, l_markGraph_1, l_markGraph_2, l_markGraph_3, SXs, cond_true, cond_false, env0, List.getElem?_cons_zero, List.getElem?_cons_succ, Nat.reduceEqDiff, if_true, if_false, ↓reduceIte, Nat.reduceAdd, Nat.zero_add, Nat.add_zero, Nat.mul_one, reduceCtorEq, HXs, Option.map_some, List.length_cons, List.length_nil, List.take_succ_cons, List.take_zero, List.drop_succ_cons, List.drop_zero, List.cons_append, List.nil_append, GV.get1]
  have hb : (H.alloc (.cells g.cs 28)).get H.n = .cells g.cs 28 := AHeap.alloc_self _ _
  have hE : ∀ b, b < H.n → g.off b → (H.alloc (.cells g.cs 28)).get b = H.get b := fun b hb _ => AHeap.alloc_ne _ _ (by omega)
  have hn : (H.alloc (.cells g.cs 28)).n = H.n + 1 := rfl
  have os := hg.s.alloc (o := .cells g.cs 28)
  have ot := hg.t.alloc (o := .cells g.cs 28)
  have od := hg.d.alloc (o := .cells g.cs 28)
  have oc := hg.c.alloc (o := .cells g.cs 28)
  have ls := hg.s.lt
  have lt := hg.t.lt
  have ld := hg.d.lt
  have lc := hg.c.lt
  generalize H.alloc (.cells g.cs 28) = G at *
  refine (markIntS_rets (k := k) os (by omega) (by omega)).mono ?_
  rintro _ G1 _ ⟨rfl, -, hn0, hg0⟩
  replace hb : G1.get H.n = .cells g.cs 28 := by rw [hg0 _ (SV.off_of_lt ls (Nat.le_refl _)), hb]
  replace hE : ∀ b, b < H.n → g.off b → G1.get b = H.get b := fun b h1 h2 => by rw [hg0 b (by simpa using h2.1), hE b h1 h2]
  replace hn : G1.n = H.n + 1 := by rw [hn0, hn]
  replace ot := ot.keep (H' := G1) (fun c hc => hg0 c ((hg.st c).resolve_right hc))
  replace od := od.keep (H' := G1) (fun c hc => hg0 c ((hg.sd c).resolve_right hc))
  replace oc := oc.keep (H' := G1) (fun c hc => hg0 c ((hg.sc c).resolve_right hc))
  simp -implicitDefEqProofs (disch := first | assumption | exact id rfl | omega | (simp only [AHeap.alloc_n, AHeap.put_n, SV.put_n, AHeap.kill_n, ne_eq, List.length_cons, List.length_nil]; omega)) only [l_markGraph_4, l_markGraph_5, SXs, cond_true, cond_false, env0, List.getElem?_cons_zero, List.getElem?_cons_succ, Nat.reduceEqDiff, if_true, if_false, ↓reduceIte, Nat.reduceAdd, Nat.zero_add, Nat.add_zero, Nat.mul_one, reduceCtorEq, HXs, Option.map_some, List.length_cons, List.length_nil, List.take_succ_cons, List.take_zero, List.drop_succ_cons, List.drop_zero, List.cons_append, List.nil_append, hb, GV.get2]
  refine (markIntS_rets (k := k + x.s.length) ot (by omega) (by omega)).mono ?_
  rintro _ G2 _ ⟨rfl, -, hn1, hg1⟩
  replace hb : G2.get H.n = .cells g.cs 28 := by rw [hg1 _ (SV.off_of_lt lt (Nat.le_refl _)), hb]
  replace hE : ∀ b, b < H.n → g.off b → G2.get b = H.get b := fun b h1 h2 => by rw [hg1 b (by simpa using h2.2.1), hE b h1 h2]
  replace hn : G2.n = H.n + 1 := by rw [hn1, hn]
  replace od := od.keep (H' := G2) (fun c hc => hg1 c ((hg.td c).resolve_right hc))
  replace oc := oc.keep (H' := G2) (fun c hc => hg1 c ((hg.tc c).resolve_right hc))
  simp -implicitDefEqProofs (disch := first | assumption | exact id rfl | omega | (simp only [AHeap.alloc_n, AHeap.put_n, SV.put_n, AHeap.kill_n, ne_eq, List.length_cons, List.length_nil]; omega)) only [l_markGraph_6, l_markGraph_7, SXs, cond_true, cond_false, env0, List.getElem?_cons_zero, List.getElem?_cons_succ, Nat.reduceEqDiff, if_true, if_false, ↓reduceIte, Nat.reduceAdd, Nat.zero_add, Nat.add_zero, Nat.mul_one, reduceCtorEq, HXs, Option.map_some, List.length_cons, List.length_nil, List.take_succ_cons, List.take_zero, List.drop_succ_cons, List.drop_zero, List.cons_append, List.nil_append, hb, GV.get3]
  refine (markIntS_rets (k := k + x.s.length + x.t.length) od (by omega) (by omega)).mono ?_
  rintro _ G3 _ ⟨rfl, -, hn2, hg2⟩
  replace hb : G3.get H.n = .cells g.cs 28 := by rw [hg2 _ (SV.off_of_lt ld (Nat.le_refl _)), hb]
  replace hE : ∀ b, b < H.n → g.off b → G3.get b = H.get b := fun b h1 h2 => by rw [hg2 b (by simpa using h2.2.2.1), hE b h1 h2]
  replace hn : G3.n = H.n + 1 := by rw [hn2, hn]
  replace oc := oc.keep (H' := G3) (fun c hc => hg2 c ((hg.dc c).resolve_right hc))
  simp -implicitDefEqProofs (disch := first | assumption | exact id rfl | omega | (simp only [AHeap.alloc_n, AHeap.put_n, SV.put_n, AHeap.kill_n, ne_eq, List.length_cons, List.length_nil]; omega)) only [l_markGraph_8, l_markGraph_9, SXs, cond_true, cond_false, env0, List.getElem?_cons_zero, List.getElem?_cons_succ, Nat.reduceEqDiff, if_true, if_false, ↓reduceIte, Nat.reduceAdd, Nat.zero_add, Nat.add_zero, Nat.mul_one, reduceCtorEq, HXs, Option.map_some, List.length_cons, List.length_nil, List.take_succ_cons, List.take_zero, List.drop_succ_cons, List.drop_zero, List.cons_append, List.nil_append, hb, GV.get4]
  refine (markIntS_rets (k := k + x.s.length + x.t.length + x.d.length) oc (by omega) (by omega)).mono ?_
  rintro _ G4 _ ⟨rfl, -, hn3, hg3⟩
  replace hb : G4.get H.n = .cells g.cs 28 := by rw [hg3 _ (SV.off_of_lt lc (Nat.le_refl _)), hb]
  replace hE : ∀ b, b < H.n → g.off b → G4.get b = H.get b := fun b h1 h2 => by rw [hg3 b (by simpa using h2.2.2.2), hE b h1 h2]
  replace hn : G4.n = H.n + 1 := by rw [hn3, hn]
  simp -implicitDefEqProofs (disch := first | assumption | exact id rfl | omega | (simp only [AHeap.alloc_n, AHeap.put_n, SV.put_n, AHeap.kill_n, ne_eq, List.length_cons, List.length_nil]; omega)) only [l_markGraph_10, l_markGraph_11, SXs, cond_true, cond_false, env0, List.getElem?_cons_zero, List.getElem?_cons_succ, Nat.reduceEqDiff, if_true, if_false, ↓reduceIte, Nat.reduceAdd, Nat.zero_add, Nat.add_zero, Nat.mul_one, reduceCtorEq, aop_ld, aop_ldn, bodyK_ret, bodyK_normal, resL, resV, Option.map_some, oneV, blockK_exit, seqK_exit, seqK_ret, blockK_ret, loopK_exit, loopK_ret, rs_l_markGraph]
  refine ⟨?_, by omega, hE⟩
  congr 2; omega
end Go.AB
