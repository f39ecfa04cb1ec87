/- A graph that grows edge by edge. -/
import Derived.Test.YtnbamdhmhnhneaaB19
import Derived.Test.YtnbamdhmhnhneaaT5
set_option linter.unusedVariables false
set_option linter.unusedSimpArgs false
set_option maxRecDepth 10000
namespace Go.AB
open Go.Proofs
variable {w0 : World} {H : AHeap}

theorem mk_int {n : Int} {ty : TypeId} : mkslO ty 1 1 [.int .i64 0] (some [(0, iv n)]) H = some ((SV.at H.n 0 1).v, H.alloc (.cells [iv n] ty)) := mkslO_one rfl rfl rfl
theorem upd_fold {s : SV} {b j : Nat} {ty : TypeId} {cs ds : List Value} : (H.app1 s ty cs ds).put b j [(SV.at (H.n + 1) 0 (s.len + 1)).v] = H.upd b j s ty cs ds := rfl
theorem GOwn.add_s {b : Nat} {gv : GV} {x : GD} {n : Int} (hb : H.get b = .cells gv.cs 28) (ho : GOwn H gv x) (hoff : gv.off b) :
    (H.upd b 1 gv.s 3 (ints x.s) [iv n]).get b = .cells (GV.cs { gv with s := .at (H.n + 1) 0 (gv.s.len + 1) }) 28 ∧ GOwn (H.upd b 1 gv.s 3 (ints x.s) [iv n]) { gv with s := .at (H.n + 1) 0 (gv.s.len + 1) } { x with s := x.s ++ [n] } ∧ GV.off { gv with s := .at (H.n + 1) 0 (gv.s.len + 1) } b ∧ ∀ k, k < H.n → k ≠ b → gv.off k → (H.upd b 1 gv.s 3 (ints x.s) [iv n]).get k = H.get k ∧ GV.off { gv with s := .at (H.n + 1) 0 (gv.s.len + 1) } k := by
  obtain ⟨o1, o2, o3, o4⟩ := hoff
  have hl := AHeap.lt_of hb (by simp)
  refine ⟨by rw [upd_self hb o1]; rfl, ⟨ho.n, by have := upd_own (b := b) (j := 1) (ds := [iv n]) ho.s rfl hl; rwa [show [iv n] = ints [n] from rfl, ints_app] at this, ho.t.upd ho.st o2, ho.d.upd ho.sd o3, ho.c.upd ho.sc o4, apart_new ho.t.lt (by omega), apart_new ho.d.lt (by omega), apart_new ho.c.lt (by omega), ho.td, ho.tc, ho.dc⟩, ⟨by simp only [SV.off]; omega, o2, o3, o4⟩, fun k hk hkb ⟨p1, p2, p3, p4⟩ => ⟨upd_ne hk hkb p1, ⟨by simp only [SV.off]; omega, p2, p3, p4⟩⟩⟩
theorem GOwn.add_t {b : Nat} {gv : GV} {x : GD} {n : Int} (hb : H.get b = .cells gv.cs 28) (ho : GOwn H gv x) (hoff : gv.off b) :
    (H.upd b 2 gv.t 3 (ints x.t) [iv n]).get b = .cells (GV.cs { gv with t := .at (H.n + 1) 0 (gv.t.len + 1) }) 28 ∧ GOwn (H.upd b 2 gv.t 3 (ints x.t) [iv n]) { gv with t := .at (H.n + 1) 0 (gv.t.len + 1) } { x with t := x.t ++ [n] } ∧ GV.off { gv with t := .at (H.n + 1) 0 (gv.t.len + 1) } b ∧ ∀ k, k < H.n → k ≠ b → gv.off k → (H.upd b 2 gv.t 3 (ints x.t) [iv n]).get k = H.get k ∧ GV.off { gv with t := .at (H.n + 1) 0 (gv.t.len + 1) } k := by
  obtain ⟨o1, o2, o3, o4⟩ := hoff
  have hl := AHeap.lt_of hb (by simp)
  refine ⟨by rw [upd_self hb o2]; rfl, ⟨ho.n, ho.s.upd ho.st.symm o1, by have := upd_own (b := b) (j := 2) (ds := [iv n]) ho.t rfl hl; rwa [show [iv n] = ints [n] from rfl, ints_app] at this, ho.d.upd ho.td o3, ho.c.upd ho.tc o4, (apart_new ho.s.lt (by omega)).symm, ho.sd, ho.sc, apart_new ho.d.lt (by omega), apart_new ho.c.lt (by omega), ho.dc⟩, ⟨o1, by simp only [SV.off]; omega, o3, o4⟩, fun k hk hkb ⟨p1, p2, p3, p4⟩ => ⟨upd_ne hk hkb p2, ⟨p1, by simp only [SV.off]; omega, p3, p4⟩⟩⟩
theorem GOwn.add_d {b : Nat} {gv : GV} {x : GD} {n : Int} (hb : H.get b = .cells gv.cs 28) (ho : GOwn H gv x) (hoff : gv.off b) :
    (H.upd b 3 gv.d 3 (ints x.d) [iv n]).get b = .cells (GV.cs { gv with d := .at (H.n + 1) 0 (gv.d.len + 1) }) 28 ∧ GOwn (H.upd b 3 gv.d 3 (ints x.d) [iv n]) { gv with d := .at (H.n + 1) 0 (gv.d.len + 1) } { x with d := x.d ++ [n] } ∧ GV.off { gv with d := .at (H.n + 1) 0 (gv.d.len + 1) } b ∧ ∀ k, k < H.n → k ≠ b → gv.off k → (H.upd b 3 gv.d 3 (ints x.d) [iv n]).get k = H.get k ∧ GV.off { gv with d := .at (H.n + 1) 0 (gv.d.len + 1) } k := by
  obtain ⟨o1, o2, o3, o4⟩ := hoff
  have hl := AHeap.lt_of hb (by simp)
  refine ⟨by rw [upd_self hb o3]; rfl, ⟨ho.n, ho.s.upd ho.sd.symm o1, ho.t.upd ho.td.symm o2, by have := upd_own (b := b) (j := 3) (ds := [iv n]) ho.d rfl hl; rwa [show [iv n] = ints [n] from rfl, ints_app] at this, ho.c.upd ho.dc o4, ho.st, (apart_new ho.s.lt (by omega)).symm, ho.sc, (apart_new ho.t.lt (by omega)).symm, ho.tc, apart_new ho.c.lt (by omega)⟩, ⟨o1, o2, by simp only [SV.off]; omega, o4⟩, fun k hk hkb ⟨p1, p2, p3, p4⟩ => ⟨upd_ne hk hkb p3, ⟨p1, p2, by simp only [SV.off]; omega, p4⟩⟩⟩
theorem GOwn.add_c {b : Nat} {gv : GV} {x : GD} {n : Int} (hb : H.get b = .cells gv.cs 28) (ho : GOwn H gv x) (hoff : gv.off b) :
    (H.upd b 4 gv.c 3 (ints x.c) [iv n]).get b = .cells (GV.cs { gv with c := .at (H.n + 1) 0 (gv.c.len + 1) }) 28 ∧ GOwn (H.upd b 4 gv.c 3 (ints x.c) [iv n]) { gv with c := .at (H.n + 1) 0 (gv.c.len + 1) } { x with c := x.c ++ [n] } ∧ GV.off { gv with c := .at (H.n + 1) 0 (gv.c.len + 1) } b ∧ ∀ k, k < H.n → k ≠ b → gv.off k → (H.upd b 4 gv.c 3 (ints x.c) [iv n]).get k = H.get k ∧ GV.off { gv with c := .at (H.n + 1) 0 (gv.c.len + 1) } k := by
  obtain ⟨o1, o2, o3, o4⟩ := hoff
  have hl := AHeap.lt_of hb (by simp)
  refine ⟨by rw [upd_self hb o4]; rfl, ⟨ho.n, ho.s.upd ho.sc.symm o1, ho.t.upd ho.tc.symm o2, ho.d.upd ho.dc.symm o3, by have := upd_own (b := b) (j := 4) (ds := [iv n]) ho.c rfl hl; rwa [show [iv n] = ints [n] from rfl, ints_app] at this, ho.st, ho.sd, (apart_new ho.s.lt (by omega)).symm, ho.td, (apart_new ho.t.lt (by omega)).symm, (apart_new ho.d.lt (by omega)).symm⟩, ⟨o1, o2, o3, by simp only [SV.off]; omega⟩, fun k hk hkb ⟨p1, p2, p3, p4⟩ => ⟨upd_ne hk hkb p4, ⟨p1, p2, p3, by simp only [SV.off]; omega⟩⟩⟩
theorem add_rets {b : Nat} {gv : GV} {x : GD} {t d c : Int} (hb : H.get b = .cells gv.cs 28) (ho : GOwn H gv x) (hoff : gv.off b) (hx : x.size ≤ 2 ^ 40) :
    Rets Go.Proofs.Try.prog w0 32 [pt b 0, iv t, iv d, iv c] H fun v H' => ∃ gv' : GV, H'.get b = .cells gv'.cs 28 ∧ GOwn H' gv' ⟨x.n, x.s, x.t ++ [t], x.d ++ [d], x.c ++ [c]⟩ ∧ gv'.off b ∧
      (∀ k, k < H.n → k ≠ b → gv.off k → H'.get k = H.get k ∧ gv'.off k) := by
  unfold GD.size at hx
  refine rets_fun rfl cf_i_Graph_add (body_of ?_)
  have l2 := iarr_len ho.t.arr
  have l3 := iarr_len ho.d.arr
  have l4 := iarr_len ho.c.arr
  have hl := AHeap.lt_of hb (by simp)
  obtain ⟨o1, o2, o3, o4⟩ := hoff
  have st2 : ∀ (gv : GV) (j : Nat), j < 5 → ∀ (G : AHeap) (s : SV), stC 1 G b (.cells gv.cs 28) j s.v = some (.tuple #[], G.put b j [s.v]) := fun gv j hj G s => stC_s hj
  simp -implicitDefEqProofs (disch := first | assumption | exact id rfl | omega | (simp only [AHeap.alloc_n, AHeap.put_n, SV.put_n, AHeap.kill_n, ne_eq, List.length_cons, List.length_nil]; omega)) only [i_Graph_add_0, i_Graph_add_1, SXs, cond_true, cond_false, env0, List.getElem?_cons_zero, List.getElem?_cons_succ, Nat.reduceEqDiff, if_true, if_false, ↓reduceIte, Nat.reduceAdd, Nat.zero_add, Nat.add_zero, Nat.mul_one, reduceCtorEq, ldO_at, hb, ldC_cells, GV.get2, Option.map_some, mk_int, appO_one (bytes := 8) (ds := [iv t]) ho.t rfl (by omega) (by omega), stO_at, app1_get hl o2, st2, upd_fold]
  obtain ⟨hb1, ho1, hoff1, hk1⟩ := GOwn.add_t (n := t) hb ho ⟨o1, o2, o3, o4⟩
  have hn1 : (H.upd b 2 gv.t 3 (ints x.t) [iv t]).n = H.n + 2 := upd_n
  generalize H.upd b 2 gv.t 3 (ints x.t) [iv t] = G1 at *
  generalize hgv1 : ({ gv with t := .at (H.n + 1) 0 (gv.t.len + 1) } : GV) = gv1 at *
  have hd1 : gv1.d.len = x.d.length := iarr_len ho1.d.arr
  have hl1 := AHeap.lt_of hb1 (by simp)
  have o3' := hoff1.2.2.1
  simp -implicitDefEqProofs (disch := first | assumption | exact id rfl | omega | (simp only [AHeap.alloc_n, AHeap.put_n, SV.put_n, AHeap.kill_n, ne_eq, List.length_cons, List.length_nil]; omega)) only [i_Graph_add_2, i_Graph_add_3, SXs, cond_true, cond_false, env0, List.getElem?_cons_zero, List.getElem?_cons_succ, Nat.reduceEqDiff, if_true, if_false, ↓reduceIte, Nat.reduceAdd, Nat.zero_add, Nat.add_zero, Nat.mul_one, reduceCtorEq, ldO_at, hb1, ldC_cells, GV.get3, Option.map_some, mk_int, appO_one (bytes := 8) (ds := [iv d]) ho1.d rfl (by omega) (by omega), stO_at, app1_get hl1 o3', st2, upd_fold]
  obtain ⟨hb2, ho2, hoff2, hk2⟩ := GOwn.add_d (n := d) hb1 ho1 hoff1
  have hn2 : (G1.upd b 3 gv1.d 3 (ints x.d) [iv d]).n = G1.n + 2 := upd_n
  generalize G1.upd b 3 gv1.d 3 (ints x.d) [iv d] = G2 at *
  generalize hgv2 : ({ gv1 with d := .at (G1.n + 1) 0 (gv1.d.len + 1) } : GV) = gv2 at *
  have hc2 : gv2.c.len = x.c.length := iarr_len ho2.c.arr
  have hl2 := AHeap.lt_of hb2 (by simp)
  have o4' := hoff2.2.2.2
  simp -implicitDefEqProofs (disch := first | assumption | exact id rfl | omega | (simp only [AHeap.alloc_n, AHeap.put_n, SV.put_n, AHeap.kill_n, ne_eq, List.length_cons, List.length_nil]; omega)) only [i_Graph_add_4, SXs, cond_true, cond_false, env0, List.getElem?_cons_zero, List.getElem?_cons_succ, Nat.reduceEqDiff, if_true, if_false, ↓reduceIte, Nat.reduceAdd, Nat.zero_add, Nat.add_zero, Nat.mul_one, reduceCtorEq, ldO_at, hb2, ldC_cells, GV.get4, Option.map_some, mk_int, appO_one (bytes := 8) (ds := [iv c]) ho2.c rfl (by omega) (by omega), stO_at, app1_get hl2 o4', st2, upd_fold, aop_ld, aop_ldn, bodyK_ret, bodyK_normal, resL, resV, Option.map_some, oneV, blockK_exit, seqK_exit, seqK_ret, blockK_ret, loopK_exit, loopK_ret, rs_i_Graph_add]
  obtain ⟨hb3, ho3, hoff3, hk3⟩ := GOwn.add_c (n := c) hb2 ho2 hoff2
  refine ⟨_, hb3, ho3, hoff3, fun k hk hkb hko => ?_⟩
  obtain ⟨q1, r1⟩ := hk1 k hk hkb hko
  obtain ⟨q2, r2⟩ := hk2 k (by omega) hkb r1
  obtain ⟨q3, r3⟩ := hk3 k (by omega) hkb r2
  exact ⟨by rw [q3, q2, q1], r3⟩
end Go.AB
