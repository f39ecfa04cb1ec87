/- The laws' own small functions: slices of int, graphs. -/
import Derived.Test.YtnbamdhmhnhneaaB21
import Derived.Test.YtnbamdhmhnhneaaL1
import Derived.Test.YtnbamdhmhnhneaaPF
set_option linter.unusedVariables false
set_option linter.unusedSimpArgs false
set_option maxRecDepth 10000
namespace Go.AB
open Go.Proofs
variable {w0 : World} {H : AHeap}

def ints (xs : List Int) : List Value := xs.map iv
theorem ints_len {xs : List Int} : (ints xs).length = xs.length := by simp [ints]
theorem ints_get {xs : List Int} {j : Nat} (h : j < xs.length) : (ints xs).getD j undef = iv (xs.getD j 0) := by
  simp [ints, List.getD_eq_getElem?_getD, h]
theorem ints_set {xs : List Int} {j : Nat} {n : Int} : (ints xs).set j (iv n) = ints (xs.set j n) := by simp [ints, List.map_set]
theorem ints_app {xs ys : List Int} : ints xs ++ ints ys = ints (xs ++ ys) := by simp [ints]
abbrev IArr (H : AHeap) (s : SV) (xs : List Int) : Prop := Arr H s 3 1 (ints xs)
abbrev IOwn (H : AHeap) (s : SV) (xs : List Int) : Prop := Own H s 3 1 (ints xs)
theorem iarr_len {s : SV} {xs : List Int} (h : IArr H s xs) : s.len = xs.length := by have := h.len; rw [ints_len] at this; omega
theorem iarr_ld {s : SV} {xs : List Int} (h : IArr H s xs) {j : Nat} (hj : j < xs.length) : ldO H (some (s.p j)) = some (iv (xs.getD j 0), H) := by
  rw [h.ld (by rw [ints_len]; exact hj), ints_get hj]
theorem iown_st {s : SV} {xs : List Int} (h : IOwn H s xs) {j : Nat} {n : Int} (hj : j < xs.length) : stO 1 H (some (s.p j)) (some (iv n)) = some (.tuple #[], s.put H j [iv n]) :=
  h.st rfl rfl (by omega) (by rw [ints_len]; omega)
theorem iown_put {s : SV} {xs : List Int} (h : IOwn H s xs) {j : Nat} {n : Int} (hj : j < xs.length) : IOwn (s.put H j [iv n]) s (xs.set j n) := by
  have := h.put (j := j) (vs := [iv n]) (by rw [ints_len]; simp; omega)
  rw [splice_one (by rw [ints_len]; exact hj), ints_set] at this
  exact this
theorem ints_ext {xs ys : List Int} (hl : xs.length = ys.length) (h : ∀ j, j < xs.length → xs.getD j 0 = ys.getD j 0) : xs = ys :=
  List.ext_getElem hl fun j h1 h2 => by
    have := h j (by omega)
    simpa [List.getD_eq_getElem?_getD, h1, h2] using this
/-! ### slices of int -/
theorem eqIntS_rets {s t : SV} {xs ys : List Int} (ha : IArr H s xs) (hb : IArr H t ys) (hx : xs.length ≤ 2 ^ 62) : Rets Go.Proofs.Try.prog w0 9 [s.v, t.v] H fun v H' => v = .bool (decide (xs = ys)) ∧ H' = H := by
  have la := iarr_len ha
  have lb := iarr_len hb
  refine rets_fun rfl cf_l_eqIntS (body_of ?_)
  simp -implicitDefEqProofs (disch := first | assumption | exact id rfl | omega | (simp only [AHeap.alloc_n, AHeap.put_n, SV.put_n, AHeap.kill_n, ne_eq, List.length_cons, List.length_nil]; omega)) only [l_eqIntS_0, l_eqIntS_1, l_eqIntS_2, l_eqIntS_3, l_eqIntS_4, l_eqIntS_5, CW_cond, SXs, cond_true, cond_false, env0, List.getElem?_cons_zero, List.getElem?_cons_succ, Nat.reduceEqDiff, if_true, if_false, ↓reduceIte, Nat.reduceAdd, Nat.zero_add, Nat.add_zero, Nat.mul_one, reduceCtorEq]
  refine condK_of (fun h => ?_) (fun h => ?_)
  · have : xs ≠ ys := fun he => by subst he; simp at h; omega
    simp -implicitDefEqProofs (disch := first | assumption | exact id rfl | omega | (simp only [AHeap.alloc_n, AHeap.put_n, SV.put_n, AHeap.kill_n, ne_eq, List.length_cons, List.length_nil]; omega)) only [l_eqIntS_6, l_eqIntS_7, SXs, cond_true, cond_false, env0, List.getElem?_cons_zero, List.getElem?_cons_succ, Nat.reduceEqDiff, if_true, if_false, ↓reduceIte, Nat.reduceAdd, Nat.zero_add, Nat.add_zero, Nat.mul_one, reduceCtorEq, aop_ld, aop_ldn, bodyK_ret, bodyK_normal, resL, resV, Option.map_some, oneV, blockK_exit, seqK_exit, seqK_ret, blockK_ret, loopK_exit, loopK_ret, rs_l_eqIntS]
    simp [this]
  · have hl : xs.length = ys.length := by simp at h; omega
    simp -implicitDefEqProofs (disch := first | assumption | exact id rfl | omega | (simp only [AHeap.alloc_n, AHeap.put_n, SV.put_n, AHeap.kill_n, ne_eq, List.length_cons, List.length_nil]; omega)) only [l_eqIntS_8, l_eqIntS_9, l_eqIntS_10, l_eqIntS_11, l_eqIntS_25, SXs, cond_true, cond_false, env0, List.getElem?_cons_zero, List.getElem?_cons_succ, Nat.reduceEqDiff, if_true, if_false, ↓reduceIte, Nat.reduceAdd, Nat.zero_add, Nat.add_zero, Nat.mul_one, reduceCtorEq]
    refine CW_inv (fun n e G => G = H ∧ ∃ i : Nat, n = xs.length - i ∧ i ≤ xs.length ∧ e 0 = some s.v ∧ e 1 = some t.v ∧ e 5 = some (iv i) ∧ ∀ j, j < i → xs.getD j 0 = ys.getD j 0) xs.length ⟨rfl, 0, by simp, by simp, rfl, rfl, rfl, by simp⟩ ?_
    rintro n e G ⟨rfl, i, hn, hi, e0, e1, e5, hp⟩
    simp -implicitDefEqProofs (disch := first | assumption | exact id rfl | omega | (simp only [AHeap.alloc_n, AHeap.put_n, SV.put_n, AHeap.kill_n, ne_eq, List.length_cons, List.length_nil]; omega)) only [l_eqIntS_13, l_eqIntS_14, l_eqIntS_15, l_eqIntS_16, CW_cond, SXs, cond_true, cond_false, env0, List.getElem?_cons_zero, List.getElem?_cons_succ, Nat.reduceEqDiff, if_true, if_false, ↓reduceIte, Nat.reduceAdd, Nat.zero_add, Nat.add_zero, Nat.mul_one, reduceCtorEq, e0, e1, e5]
    refine condK_of (fun h => ?_) (fun h => ?_)
    · have hlt : i < xs.length := by simp at h; omega
      simp -implicitDefEqProofs (disch := first | assumption | exact id rfl | omega | (simp only [AHeap.alloc_n, AHeap.put_n, SV.put_n, AHeap.kill_n, ne_eq, List.length_cons, List.length_nil]; omega)) only [l_eqIntS_17, l_eqIntS_18, l_eqIntS_19, l_eqIntS_20, l_eqIntS_21, SXs, cond_true, cond_false, env0, List.getElem?_cons_zero, List.getElem?_cons_succ, Nat.reduceEqDiff, if_true, if_false, ↓reduceIte, Nat.reduceAdd, Nat.zero_add, Nat.add_zero, Nat.mul_one, reduceCtorEq, e0, e1, e5, iarr_ld ha, iarr_ld hb, CW_cond]
      refine condK_of (fun h => ?_) (fun h => ?_)
      · have : xs ≠ ys := fun he => by subst he; simp at h
        simp -implicitDefEqProofs (disch := first | assumption | exact id rfl | omega | (simp only [AHeap.alloc_n, AHeap.put_n, SV.put_n, AHeap.kill_n, ne_eq, List.length_cons, List.length_nil]; omega)) only [l_eqIntS_22, l_eqIntS_23, SXs, cond_true, cond_false, env0, List.getElem?_cons_zero, List.getElem?_cons_succ, Nat.reduceEqDiff, if_true, if_false, ↓reduceIte, Nat.reduceAdd, Nat.zero_add, Nat.add_zero, Nat.mul_one, reduceCtorEq, aop_ld, aop_ldn, bodyK_ret, bodyK_normal, resL, resV, Option.map_some, oneV, blockK_exit, seqK_exit, seqK_ret, blockK_ret, loopK_exit, loopK_ret, rs_l_eqIntS]
        simp [this]
      · simp at h
        simp -implicitDefEqProofs (disch := first | assumption | exact id rfl | omega | (simp only [AHeap.alloc_n, AHeap.put_n, SV.put_n, AHeap.kill_n, ne_eq, List.length_cons, List.length_nil]; omega)) only [l_eqIntS_24, SXs, cond_true, cond_false, env0, List.getElem?_cons_zero, List.getElem?_cons_succ, Nat.reduceEqDiff, if_true, if_false, ↓reduceIte, Nat.reduceAdd, Nat.zero_add, Nat.add_zero, Nat.mul_one, reduceCtorEq, e5]
        refine ⟨_, ?_, rfl, i + 1, rfl, by omega, e0, e1, rfl, fun j hj => ?_⟩
        · omega
        · by_cases hji : j = i
          · subst hji; exact h
          · exact hp j (by omega)
    · have hlt : i = xs.length := by simp at h; omega
      simp -implicitDefEqProofs (disch := first | assumption | exact id rfl | omega | (simp only [AHeap.alloc_n, AHeap.put_n, SV.put_n, AHeap.kill_n, ne_eq, List.length_cons, List.length_nil]; omega)) only [l_eqIntS_26, SXs, cond_true, cond_false, env0, List.getElem?_cons_zero, List.getElem?_cons_succ, Nat.reduceEqDiff, if_true, if_false, ↓reduceIte, Nat.reduceAdd, Nat.zero_add, Nat.add_zero, Nat.mul_one, reduceCtorEq, aop_ld, aop_ldn, bodyK_ret, bodyK_normal, resL, resV, Option.map_some, oneV, blockK_exit, seqK_exit, seqK_ret, blockK_ret, loopK_exit, loopK_ret, rs_l_eqIntS]
      have : xs = ys := ints_ext hl fun j hj => hp j (by omega)
      simp [this]

theorem szIntS_rets {s : SV} {left : Int} (hs : s.len ≤ 2 ^ 62) (hl : -1 ≤ left ∧ left ≤ 2 ^ 20) : Rets Go.Proofs.Try.prog w0 16 [s.v, iv left] H fun v H' => v = iv (if left - s.len < 0 then -1 else left - s.len) ∧ H' = H := by
  refine rets_fun rfl cf_l_szIntS (body_of ?_)
  simp -implicitDefEqProofs (disch := first | assumption | exact id rfl | omega | (simp only [AHeap.alloc_n, AHeap.put_n, SV.put_n, AHeap.kill_n, ne_eq, List.length_cons, List.length_nil]; omega)) only [l_szIntS_0, l_szIntS_1, l_szIntS_2, l_szIntS_3, l_szIntS_4, l_szIntS_5, l_szIntS_6, l_szIntS_7, CW_cond, SXs, cond_true, cond_false, env0, List.getElem?_cons_zero, List.getElem?_cons_succ, Nat.reduceEqDiff, if_true, if_false, ↓reduceIte, Nat.reduceAdd, Nat.zero_add, Nat.add_zero, Nat.mul_one, reduceCtorEq]
  refine condK_of (fun h => ?_) (fun h => ?_)
  · simp -implicitDefEqProofs (disch := first | assumption | exact id rfl | omega | (simp only [AHeap.alloc_n, AHeap.put_n, SV.put_n, AHeap.kill_n, ne_eq, List.length_cons, List.length_nil]; omega)) only [l_szIntS_8, l_szIntS_9, SXs, cond_true, cond_false, env0, List.getElem?_cons_zero, List.getElem?_cons_succ, Nat.reduceEqDiff, if_true, if_false, ↓reduceIte, Nat.reduceAdd, Nat.zero_add, Nat.add_zero, Nat.mul_one, reduceCtorEq, aop_ld, aop_ldn, bodyK_ret, bodyK_normal, resL, resV, Option.map_some, oneV, blockK_exit, seqK_exit, seqK_ret, blockK_ret, loopK_exit, loopK_ret, rs_l_szIntS]
    simp at h
    simp [h]
  · simp -implicitDefEqProofs (disch := first | assumption | exact id rfl | omega | (simp only [AHeap.alloc_n, AHeap.put_n, SV.put_n, AHeap.kill_n, ne_eq, List.length_cons, List.length_nil]; omega)) only [l_szIntS_10, l_szIntS_11, SXs, cond_true, cond_false, env0, List.getElem?_cons_zero, List.getElem?_cons_succ, Nat.reduceEqDiff, if_true, if_false, ↓reduceIte, Nat.reduceAdd, Nat.zero_add, Nat.add_zero, Nat.mul_one, reduceCtorEq, aop_ld, aop_ldn, bodyK_ret, bodyK_normal, resL, resV, Option.map_some, oneV, blockK_exit, seqK_exit, seqK_ret, blockK_ret, loopK_exit, loopK_ret, rs_l_szIntS]
    simp at h
    rw [if_neg (by omega)]
    simp

theorem heldIntS_rets {s : SV} {xs : List Int} {k : Nat} (ha : IArr H s xs) (hx : xs.length ≤ 2 ^ 46) (hk : k ≤ 2 ^ 46) : Rets Go.Proofs.Try.prog w0 13 [s.v, iv k] H fun v H' => v = iv (if xs = (List.range xs.length).map (fun i => ((k + i : Nat) : Int)) then ((k + xs.length : Nat) : Int) else -1) ∧ H' = H := by
  have la := iarr_len ha
  have key : (∀ j, j < xs.length → xs.getD j 0 = ((k + j : Nat) : Int)) ↔ xs = (List.range xs.length).map (fun i => ((k + i : Nat) : Int)) := by
    constructor
    · intro h
      refine ints_ext (by simp) fun j hj => ?_
      rw [h j hj]; simp [List.getD_eq_getElem?_getD, hj]
    · intro h j hj
      rw [h]; simp [List.getD_eq_getElem?_getD, hj]
  refine rets_fun rfl cf_l_heldIntS (body_of ?_)
  simp -implicitDefEqProofs (disch := first | assumption | exact id rfl | omega | (simp only [AHeap.alloc_n, AHeap.put_n, SV.put_n, AHeap.kill_n, ne_eq, List.length_cons, List.length_nil]; omega)) only [l_heldIntS_0, l_heldIntS_1, l_heldIntS_2, l_heldIntS_3, l_heldIntS_4, l_heldIntS_5, SXs, cond_true, cond_false, env0, List.getElem?_cons_zero, List.getElem?_cons_succ, Nat.reduceEqDiff, if_true, if_false, ↓reduceIte, Nat.reduceAdd, Nat.zero_add, Nat.add_zero, Nat.mul_one, reduceCtorEq]
  refine CW_inv (fun n e G => G = H ∧ ∃ i : Nat, n = xs.length - i ∧ i ≤ xs.length ∧ e 0 = some s.v ∧ e 1 = some (iv ((k + i : Nat) : Int)) ∧ e 5 = some (iv i) ∧ ∀ j, j < i → xs.getD j 0 = ((k + j : Nat) : Int)) xs.length ⟨rfl, 0, by simp, by simp, rfl, rfl, rfl, by simp⟩ ?_
  rintro n e G ⟨rfl, i, hn, hi, e0, e1, e5, hp⟩
  simp -implicitDefEqProofs (disch := first | assumption | exact id rfl | omega | (simp only [AHeap.alloc_n, AHeap.put_n, SV.put_n, AHeap.kill_n, ne_eq, List.length_cons, List.length_nil]; omega)) only [l_heldIntS_7, l_heldIntS_8, l_heldIntS_9, l_heldIntS_10, CW_cond, SXs, cond_true, cond_false, env0, List.getElem?_cons_zero, List.getElem?_cons_succ, Nat.reduceEqDiff, if_true, if_false, ↓reduceIte, Nat.reduceAdd, Nat.zero_add, Nat.add_zero, Nat.mul_one, reduceCtorEq, e0, e1, e5]
  refine condK_of (fun h => ?_) (fun h => ?_)
  · have hlt : i < xs.length := by simp at h; omega
    simp -implicitDefEqProofs (disch := first | assumption | exact id rfl | omega | (simp only [AHeap.alloc_n, AHeap.put_n, SV.put_n, AHeap.kill_n, ne_eq, List.length_cons, List.length_nil]; omega)) only [l_heldIntS_11, l_heldIntS_12, l_heldIntS_13, l_heldIntS_14, l_heldIntS_15, l_heldIntS_16, SXs, cond_true, cond_false, env0, List.getElem?_cons_zero, List.getElem?_cons_succ, Nat.reduceEqDiff, if_true, if_false, ↓reduceIte, Nat.reduceAdd, Nat.zero_add, Nat.add_zero, Nat.mul_one, reduceCtorEq, e0, e1, e5, iarr_ld ha, CW_cond]
    refine condK_of (fun h => ?_) (fun h => ?_)
    · simp -implicitDefEqProofs (disch := first | assumption | exact id rfl | omega | (simp only [AHeap.alloc_n, AHeap.put_n, SV.put_n, AHeap.kill_n, ne_eq, List.length_cons, List.length_nil]; omega)) only [l_heldIntS_17, l_heldIntS_18, SXs, cond_true, cond_false, env0, List.getElem?_cons_zero, List.getElem?_cons_succ, Nat.reduceEqDiff, if_true, if_false, ↓reduceIte, Nat.reduceAdd, Nat.zero_add, Nat.add_zero, Nat.mul_one, reduceCtorEq, aop_ld, aop_ldn, bodyK_ret, bodyK_normal, resL, resV, Option.map_some, oneV, blockK_exit, seqK_exit, seqK_ret, blockK_ret, loopK_exit, loopK_ret, rs_l_heldIntS]
      rw [if_neg]
      · simp
      · intro he
        have := key.2 he i hlt
        rw [this] at h; simp at h
    · simp at h
      simp -implicitDefEqProofs (disch := first | assumption | exact id rfl | omega | (simp only [AHeap.alloc_n, AHeap.put_n, SV.put_n, AHeap.kill_n, ne_eq, List.length_cons, List.length_nil]; omega)) only [l_heldIntS_19, l_heldIntS_20, SXs, cond_true, cond_false, env0, List.getElem?_cons_zero, List.getElem?_cons_succ, Nat.reduceEqDiff, if_true, if_false, ↓reduceIte, Nat.reduceAdd, Nat.zero_add, Nat.add_zero, Nat.mul_one, reduceCtorEq, e1, e5]
      refine ⟨_, ?_, rfl, i + 1, rfl, by omega, e0, rfl, rfl, fun j hj => ?_⟩
      · omega
      · by_cases hji : j = i
        · subst hji; simp only [List.getD_eq_getElem?_getD]; rw [h]; omega
        · exact hp j (by omega)
  · have hlt : i = xs.length := by simp at h; omega
    subst hlt
    simp -implicitDefEqProofs (disch := first | assumption | exact id rfl | omega | (simp only [AHeap.alloc_n, AHeap.put_n, SV.put_n, AHeap.kill_n, ne_eq, List.length_cons, List.length_nil]; omega)) only [l_heldIntS_21, l_heldIntS_22, SXs, cond_true, cond_false, env0, List.getElem?_cons_zero, List.getElem?_cons_succ, Nat.reduceEqDiff, if_true, if_false, ↓reduceIte, Nat.reduceAdd, Nat.zero_add, Nat.add_zero, Nat.mul_one, reduceCtorEq, aop_ld, aop_ldn, bodyK_ret, bodyK_normal, resL, resV, Option.map_some, oneV, blockK_exit, seqK_exit, seqK_ret, blockK_ret, loopK_exit, loopK_ret, rs_l_heldIntS, e1]
    rw [if_pos (key.1 hp)]
    simp

/-- What a marking leaves. -/
def marked (k n : Nat) : List Int := (List.range n).map (fun i => ((k + i : Nat) : Int))
theorem marked_len {k n : Nat} : (marked k n).length = n := by simp [marked]

theorem markIntS_rets {s : SV} {xs : List Int} {k : Nat} (ha : IOwn H s xs) (hx : xs.length ≤ 2 ^ 46) (hk : k ≤ 2 ^ 46) : Rets Go.Proofs.Try.prog w0 12 [s.v, iv k] H fun v H' => v = iv ((k + xs.length : Nat) : Int) ∧ IOwn H' s (marked k xs.length) ∧ H'.n = H.n ∧ ∀ b, s.off b → H'.get b = H.get b := by
  have la := iarr_len ha.arr
  refine rets_fun rfl cf_l_markIntS (body_of ?_)
  simp -implicitDefEqProofs (disch := first | assumption | exact id rfl | omega | (simp only [AHeap.alloc_n, AHeap.put_n, SV.put_n, AHeap.kill_n, ne_eq, List.length_cons, List.length_nil]; omega)) only [l_markIntS_0, l_markIntS_1, l_markIntS_2, l_markIntS_3, l_markIntS_4, l_markIntS_5, SXs, cond_true, cond_false, env0, List.getElem?_cons_zero, List.getElem?_cons_succ, Nat.reduceEqDiff, if_true, if_false, ↓reduceIte, Nat.reduceAdd, Nat.zero_add, Nat.add_zero, Nat.mul_one, reduceCtorEq]
  refine CW_inv (fun n e G => ∃ (i : Nat) (ys : List Int), n = xs.length - i ∧ i ≤ xs.length ∧ e 0 = some s.v ∧ e 1 = some (iv ((k + i : Nat) : Int)) ∧ e 5 = some (iv i) ∧ IOwn G s ys ∧ ys.length = xs.length ∧ (∀ j, j < i → ys.getD j 0 = ((k + j : Nat) : Int)) ∧ G.n = H.n ∧ ∀ b, s.off b → G.get b = H.get b) xs.length ⟨0, xs, by simp, by simp, rfl, rfl, rfl, ha, rfl, by simp, rfl, fun _ _ => rfl⟩ ?_
  rintro n e G ⟨i, ys, hn, hi, e0, e1, e5, ho, hl, hp, hgn, hg⟩
  simp -implicitDefEqProofs (disch := first | assumption | exact id rfl | omega | (simp only [AHeap.alloc_n, AHeap.put_n, SV.put_n, AHeap.kill_n, ne_eq, List.length_cons, List.length_nil]; omega)) only [l_markIntS_7, l_markIntS_8, l_markIntS_9, l_markIntS_10, CW_cond, SXs, cond_true, cond_false, env0, List.getElem?_cons_zero, List.getElem?_cons_succ, Nat.reduceEqDiff, if_true, if_false, ↓reduceIte, Nat.reduceAdd, Nat.zero_add, Nat.add_zero, Nat.mul_one, reduceCtorEq, e0, e1, e5]
  refine condK_of (fun h => ?_) (fun h => ?_)
  · have hlt : i < xs.length := by simp at h; omega
    simp -implicitDefEqProofs (disch := first | assumption | exact id rfl | omega | (simp only [AHeap.alloc_n, AHeap.put_n, SV.put_n, AHeap.kill_n, ne_eq, List.length_cons, List.length_nil]; omega)) only [l_markIntS_11, l_markIntS_12, l_markIntS_13, l_markIntS_14, l_markIntS_15, l_markIntS_16, SXs, cond_true, cond_false, env0, List.getElem?_cons_zero, List.getElem?_cons_succ, Nat.reduceEqDiff, if_true, if_false, ↓reduceIte, Nat.reduceAdd, Nat.zero_add, Nat.add_zero, Nat.mul_one, reduceCtorEq, e0, e1, e5, iown_st ho]
    refine ⟨_, ?_, i + 1, ys.set i ((k + i : Nat) : Int), rfl, by omega, e0, rfl, rfl, iown_put ho (by omega), by simp [hl], fun j hj => ?_, by rw [SV.put_n, hgn], fun b hb => by rw [SV.put_ne hb, hg b hb]⟩
    · omega
    · rw [getD_set (by omega)]
      split
      · subst_vars; rfl
      · exact hp j (by omega)
  · have hlt : i = xs.length := by simp at h; omega
    subst hlt
    simp -implicitDefEqProofs (disch := first | assumption | exact id rfl | omega | (simp only [AHeap.alloc_n, AHeap.put_n, SV.put_n, AHeap.kill_n, ne_eq, List.length_cons, List.length_nil]; omega)) only [l_markIntS_17, l_markIntS_18, SXs, cond_true, cond_false, env0, List.getElem?_cons_zero, List.getElem?_cons_succ, Nat.reduceEqDiff, if_true, if_false, ↓reduceIte, Nat.reduceAdd, Nat.zero_add, Nat.add_zero, Nat.mul_one, reduceCtorEq, aop_ld, aop_ldn, bodyK_ret, bodyK_normal, resL, resV, Option.map_some, oneV, blockK_exit, seqK_exit, seqK_ret, blockK_ret, loopK_exit, loopK_ret, rs_l_markIntS, e1]
    have : ys = marked k xs.length := ints_ext (by simp [marked, hl]) fun j hj => by
      rw [hp j (by omega)]; simp [marked, List.getD_eq_getElem?_getD, hl ▸ hj]
    subst this
    exact ⟨trivial, ho, hgn, hg⟩

theorem toIntS_rets {s : SV} {xs : List Int} (ha : IArr H s xs) (hx : xs.length ≤ 2 ^ 40) : Rets Go.Proofs.Try.prog w0 19 [s.v] H fun v H' => v = (SV.at H.n 0 xs.length).v ∧ IOwn H' (.at H.n 0 xs.length) xs ∧ H'.n = H.n + 1 ∧ ∀ b, b < H.n → H'.get b = H.get b := by
  have la := iarr_len ha
  refine rets_fun rfl cf_l_toIntS (body_of ?_)
  simp -implicitDefEqProofs (disch := first | assumption | exact id rfl | omega | (simp only [AHeap.alloc_n, AHeap.put_n, SV.put_n, AHeap.kill_n, ne_eq, List.length_cons, List.length_nil]; omega)) only [l_toIntS_0, l_toIntS_1, l_toIntS_2, l_toIntS_3, l_toIntS_4, l_toIntS_5, l_toIntS_6, l_toIntS_7, SXs, cond_true, cond_false, env0, List.getElem?_cons_zero, List.getElem?_cons_succ, Nat.reduceEqDiff, if_true, if_false, ↓reduceIte, Nat.reduceAdd, Nat.zero_add, Nat.add_zero, Nat.mul_one, reduceCtorEq, mksO_n]
  have h0 : IOwn (H.alloc (.cells (List.replicate s.len [iv 0]).flatten 3)) (.at H.n 0 xs.length) (List.replicate xs.length 0) := by
    rw [la]
    have : (List.replicate xs.length [iv 0]).flatten = ints (List.replicate xs.length 0) := by simp [ints, List.map_replicate]
    rw [this]
    exact Own.new (by simp [ints])
  refine CW_inv (fun n e G => ∃ (i : Nat) (ys : List Int), n = xs.length - i ∧ i ≤ xs.length ∧ e 0 = some s.v ∧ e 3 = some (SV.at H.n 0 xs.length).v ∧ e 4 = some (iv i) ∧ IOwn G (.at H.n 0 xs.length) ys ∧ ys.length = xs.length ∧ (∀ j, j < i → ys.getD j 0 = xs.getD j 0) ∧ G.n = H.n + 1 ∧ ∀ b, b < H.n → G.get b = H.get b) xs.length ⟨0, _, by simp, by simp, rfl, by simp [put_some, la], rfl, h0, by simp, by simp, rfl, fun b hb => AHeap.alloc_ne H _ (by omega)⟩ ?_
  rintro n e G ⟨i, ys, hn, hi, e0, e3, e4, ho, hl, hp, hgn, hg⟩
  have ha' : IArr G s xs := ha.keep fun b hb => hg b (by
    have := ha.lt
    cases s with
    | nil => simp [SV.off] at hb
    | «at» c o m => simp [SV.off] at hb; subst hb; exact this)
  simp -implicitDefEqProofs (disch := first | assumption | exact id rfl | omega | (simp only [AHeap.alloc_n, AHeap.put_n, SV.put_n, AHeap.kill_n, ne_eq, List.length_cons, List.length_nil]; omega)) only [l_toIntS_9, l_toIntS_10, l_toIntS_11, l_toIntS_12, CW_cond, SXs, cond_true, cond_false, env0, List.getElem?_cons_zero, List.getElem?_cons_succ, Nat.reduceEqDiff, if_true, if_false, ↓reduceIte, Nat.reduceAdd, Nat.zero_add, Nat.add_zero, Nat.mul_one, reduceCtorEq, e0, e3, e4]
  refine condK_of (fun h => ?_) (fun h => ?_)
  · have hlt : i < xs.length := by simp at h; omega
    have hlt2 : i < (SV.at H.n 0 xs.length).len := hlt
    simp -implicitDefEqProofs (disch := first | assumption | exact id rfl | omega | (simp only [AHeap.alloc_n, AHeap.put_n, SV.put_n, AHeap.kill_n, ne_eq, List.length_cons, List.length_nil]; omega)) only [l_toIntS_13, l_toIntS_14, l_toIntS_15, l_toIntS_16, SXs, cond_true, cond_false, env0, List.getElem?_cons_zero, List.getElem?_cons_succ, Nat.reduceEqDiff, if_true, if_false, ↓reduceIte, Nat.reduceAdd, Nat.zero_add, Nat.add_zero, Nat.mul_one, reduceCtorEq, e0, e3, e4, iarr_ld ha', iown_st ho]
    refine ⟨_, ?_, i + 1, _, rfl, by omega, e0, e3, rfl, iown_put ho (by omega), by simp [hl], fun j hj => ?_, by rw [SV.put_n, hgn], fun b hb => by rw [SV.put_ne (by simp [SV.off]; omega), hg b hb]⟩
    · omega
    · rw [getD_set (by omega)]
      split
      · subst_vars; rfl
      · exact hp j (by omega)
  · have hlt : i = xs.length := by simp at h; omega
    subst hlt
    simp -implicitDefEqProofs (disch := first | assumption | exact id rfl | omega | (simp only [AHeap.alloc_n, AHeap.put_n, SV.put_n, AHeap.kill_n, ne_eq, List.length_cons, List.length_nil]; omega)) only [l_toIntS_17, l_toIntS_18, SXs, cond_true, cond_false, env0, List.getElem?_cons_zero, List.getElem?_cons_succ, Nat.reduceEqDiff, if_true, if_false, ↓reduceIte, Nat.reduceAdd, Nat.zero_add, Nat.add_zero, Nat.mul_one, reduceCtorEq, aop_ld, aop_ldn, bodyK_ret, bodyK_normal, resL, resV, Option.map_some, oneV, blockK_exit, seqK_exit, seqK_ret, blockK_ret, loopK_exit, loopK_ret, rs_l_toIntS, e3]
    have : ys = xs := ints_ext hl fun j hj => hp j (by omega)
    subst this
    exact ⟨trivial, ho, hgn, hg⟩
end Go.AB
