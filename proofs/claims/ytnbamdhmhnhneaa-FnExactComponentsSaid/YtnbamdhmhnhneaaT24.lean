/- The first place of a value, and the least value, of a slice of int. -/
import Derived.Test.YtnbamdhmhnhneaaT23
set_option linter.unusedVariables false
set_option linter.unusedSimpArgs false
set_option maxRecDepth 10000
set_option maxHeartbeats 2000000
namespace Go.AB
open Go.Proofs
variable {w0 : World} {H : AHeap}

theorem index_rets {s : SV} {xs : List Int} {c : Int} (ha : IArr H s xs) (hx : xs.length ≤ 2 ^ 46) (hc : c ∈ xs) : Rets Go.Proofs.Try.prog w0 29 [s.v, iv c] H fun v H' => ∃ j : Nat, v = iv j ∧ j < xs.length ∧ xs.getD j 0 = c ∧ (∀ i, i < j → xs.getD i 0 ≠ c) ∧ H' = H := by
  have la := iarr_len ha
  refine rets_fun rfl cf_slices_Index_int_int (body_of ?_)
  simp -implicitDefEqProofs (disch := first | assumption | exact id rfl | omega | (simp only [AHeap.alloc_n, AHeap.put_n, SV.put_n, AHeap.kill_n, ne_eq, List.length_cons, List.length_nil]; omega)) only [slices_Index_int_int_0, slices_Index_int_int_1, slices_Index_int_int_2, slices_Index_int_int_3, slices_Index_int_int_4, slices_Index_int_int_5, slices_Index_int_int_6, SXs, cond_true, cond_false, env0, List.getElem?_cons_zero, List.getElem?_cons_succ, Nat.reduceEqDiff, if_true, if_false, ↓reduceIte, Nat.reduceAdd, Nat.zero_add, Nat.add_zero, Nat.mul_one, reduceCtorEq]
  refine CW_inv (fun n e G => G = H ∧ ∃ i : Nat, n = xs.length - i ∧ i ≤ xs.length ∧ e 0 = some s.v ∧ e 1 = some (iv c) ∧ e 7 = some (iv xs.length) ∧ e 8 = some (iv i) ∧ ∀ j, j < i → xs.getD j 0 ≠ c) xs.length
    ⟨rfl, 0, by simp, by simp, rfl, rfl, by rw [← la]; rfl, rfl, fun j hj => by omega⟩ ?_
  rintro n e G ⟨rfl, i, hn, hi, e0, e1, e7, e8, hp⟩
  simp -implicitDefEqProofs (disch := first | assumption | exact id rfl | omega | (simp only [AHeap.alloc_n, AHeap.put_n, SV.put_n, AHeap.kill_n, ne_eq, List.length_cons, List.length_nil]; omega)) only [slices_Index_int_int_7, slices_Index_int_int_8, slices_Index_int_int_9, slices_Index_int_int_10, CW_cond, SXs, cond_true, cond_false, env0, List.getElem?_cons_zero, List.getElem?_cons_succ, Nat.reduceEqDiff, if_true, if_false, ↓reduceIte, Nat.reduceAdd, Nat.zero_add, Nat.add_zero, Nat.mul_one, reduceCtorEq, e7, e8]
  refine condK_of (fun h => ?_) (fun h => ?_) <;> simp only [decide_eq_true_eq, decide_eq_false_iff_not, bne_iff_ne, ne_eq, bne_eq_false_iff_eq, beq_iff_eq, beq_eq_false_iff_ne, Bool.not_eq_true, Bool.not_eq_eq_eq_not, Bool.not_true, Bool.not_false, Classical.not_not, Int.not_lt, Int.not_le] at h
  · have hlt : i < xs.length := by omega
    simp -implicitDefEqProofs (disch := first | assumption | exact id rfl | omega | (simp only [AHeap.alloc_n, AHeap.put_n, SV.put_n, AHeap.kill_n, ne_eq, List.length_cons, List.length_nil]; omega)) only [slices_Index_int_int_11, slices_Index_int_int_12, slices_Index_int_int_13, slices_Index_int_int_14, slices_Index_int_int_15, slices_Index_int_int_16, slices_Index_int_int_17, CW_cond, SXs, cond_true, cond_false, env0, List.getElem?_cons_zero, List.getElem?_cons_succ, Nat.reduceEqDiff, if_true, if_false, ↓reduceIte, Nat.reduceAdd, Nat.zero_add, Nat.add_zero, Nat.mul_one, reduceCtorEq, e0, e1, e8, iarr_ld ha]
    refine condK_of (fun h2 => ?_) (fun h2 => ?_) <;> simp only [decide_eq_true_eq, decide_eq_false_iff_not, bne_iff_ne, ne_eq, bne_eq_false_iff_eq, beq_iff_eq, beq_eq_false_iff_ne, Bool.not_eq_true, Bool.not_eq_eq_eq_not, Bool.not_true, Bool.not_false, Classical.not_not, Int.not_lt, Int.not_le] at h2
    · simp -implicitDefEqProofs (disch := first | assumption | exact id rfl | omega | (simp only [AHeap.alloc_n, AHeap.put_n, SV.put_n, AHeap.kill_n, ne_eq, List.length_cons, List.length_nil]; omega)) only [slices_Index_int_int_18, slices_Index_int_int_19, aop_ld, aop_ldn, bodyK_ret, bodyK_normal, resL, resV, Option.map_some, oneV, blockK_exit, seqK_exit, seqK_ret, blockK_ret, loopK_exit, loopK_ret, rs_slices_Index_int_int, SXs, cond_true, cond_false, env0, List.getElem?_cons_zero, List.getElem?_cons_succ, Nat.reduceEqDiff, if_true, if_false, ↓reduceIte, Nat.reduceAdd, Nat.zero_add, Nat.add_zero, Nat.mul_one, reduceCtorEq, aop_ld, aop_ldn, bodyK_ret, bodyK_normal, resL, resV, Option.map_some, oneV, blockK_exit, seqK_exit, seqK_ret, blockK_ret, loopK_exit, loopK_ret]
      exact ⟨i, rfl, hlt, h2.symm, hp, (by first | trivial | assumption)⟩
    · simp -implicitDefEqProofs (disch := first | assumption | exact id rfl | omega | (simp only [AHeap.alloc_n, AHeap.put_n, SV.put_n, AHeap.kill_n, ne_eq, List.length_cons, List.length_nil]; omega)) only [slices_Index_int_int_20, SXs, cond_true, cond_false, env0, List.getElem?_cons_zero, List.getElem?_cons_succ, Nat.reduceEqDiff, if_true, if_false, ↓reduceIte, Nat.reduceAdd, Nat.zero_add, Nat.add_zero, Nat.mul_one, reduceCtorEq, e8]
      refine ⟨xs.length - (i + 1), by omega, rfl, i + 1, rfl, by omega, e0, e1, e7, rfl, fun j hj => ?_⟩
      by_cases hji : j = i
      · subst hji; exact fun h => h2 h.symm
      · exact hp j (by omega)
  · exfalso
    obtain ⟨k, hk, rfl⟩ := List.getElem_of_mem hc
    exact hp k (by omega) (by simp [List.getD_eq_getElem?_getD, hk])

theorem le0 {xs : List Int} {j : Nat} (h : j = 0) : xs.getD 0 0 ≤ xs.getD j 0 := by subst h; exact Int.le_refl _
theorem min_rets {s : SV} {xs : List Int} (ha : IArr H s xs) (hx : xs.length ≤ 2 ^ 46) (h0 : 0 < xs.length) : Rets Go.Proofs.Try.prog w0 30 [s.v] H fun v H' => ∃ m : Int, v = iv m ∧ m ∈ xs ∧ (∀ y ∈ xs, m ≤ y) ∧ H' = H := by
  have la := iarr_len ha
  refine rets_fun rfl cf_slices_Min_int_int (body_of ?_)
  simp -implicitDefEqProofs (disch := first | assumption | exact id rfl | omega | (simp only [AHeap.alloc_n, AHeap.put_n, SV.put_n, AHeap.kill_n, ne_eq, List.length_cons, List.length_nil]; omega)) only [slices_Min_int_int_0, slices_Min_int_int_1, slices_Min_int_int_2, slices_Min_int_int_3, slices_Min_int_int_4, slices_Min_int_int_5, CW_cond, SXs, cond_true, cond_false, env0, List.getElem?_cons_zero, List.getElem?_cons_succ, Nat.reduceEqDiff, if_true, if_false, ↓reduceIte, Nat.reduceAdd, Nat.zero_add, Nat.add_zero, Nat.mul_one, reduceCtorEq]
  refine condK_of (fun h => ?_) (fun h => ?_) <;> simp only [decide_eq_true_eq, decide_eq_false_iff_not, bne_iff_ne, ne_eq, bne_eq_false_iff_eq, beq_iff_eq, beq_eq_false_iff_ne, Bool.not_eq_true, Bool.not_eq_eq_eq_not, Bool.not_true, Bool.not_false, Classical.not_not, Int.not_lt, Int.not_le] at h
  · omega
  have i0 : iaO 1 (some s.v) (some (.int .i64 0)) H = some (s.p (0 * 1), H) := iaO_n (n := 0) (by omega)
  simp -implicitDefEqProofs (disch := first | assumption | exact id rfl | omega | (simp only [AHeap.alloc_n, AHeap.put_n, SV.put_n, AHeap.kill_n, ne_eq, List.length_cons, List.length_nil]; omega)) only [slices_Min_int_int_7, slices_Min_int_int_8, slices_Min_int_int_9, slices_Min_int_int_10, slices_Min_int_int_11, slices_Min_int_int_12, slices_Min_int_int_13, SXs, cond_true, cond_false, env0, List.getElem?_cons_zero, List.getElem?_cons_succ, Nat.reduceEqDiff, if_true, if_false, ↓reduceIte, Nat.reduceAdd, Nat.zero_add, Nat.add_zero, Nat.mul_one, reduceCtorEq, i0, Nat.zero_mul, iarr_ld ha]
  refine CW_midq (fun e G => G = H ∧ ∃ m : Int, e 3 = some (iv m) ∧ m ∈ xs ∧ ∀ y ∈ xs, m ≤ y) ?_ ?_
  · refine CW_inv (fun n e G => G = H ∧ ∃ (i : Nat) (m : Int), n = xs.length - i ∧ 1 ≤ i ∧ i ≤ xs.length ∧ e 0 = some s.v ∧ e 3 = some (iv m) ∧ e 4 = some (iv i) ∧ m ∈ xs ∧ ∀ j, j < i → m ≤ xs.getD j 0) (xs.length - 1)
      ⟨rfl, 1, xs.getD 0 0, by rfl, by omega, by omega, rfl, rfl, rfl, by simp [List.getD_eq_getElem?_getD, h0], fun j hj => le0 (by omega)⟩ ?_
    rintro n e G ⟨rfl, i, m, hn, hi1, hi, e0, e3, e4, hm, hp⟩
    simp -implicitDefEqProofs (disch := first | assumption | exact id rfl | omega | (simp only [AHeap.alloc_n, AHeap.put_n, SV.put_n, AHeap.kill_n, ne_eq, List.length_cons, List.length_nil]; omega)) only [slices_Min_int_int_14, slices_Min_int_int_15, slices_Min_int_int_16, slices_Min_int_int_17, CW_cond, SXs, cond_true, cond_false, env0, List.getElem?_cons_zero, List.getElem?_cons_succ, Nat.reduceEqDiff, if_true, if_false, ↓reduceIte, Nat.reduceAdd, Nat.zero_add, Nat.add_zero, Nat.mul_one, reduceCtorEq, e0, e4]
    refine condK_of (fun h => ?_) (fun h => ?_) <;> simp only [decide_eq_true_eq, decide_eq_false_iff_not, bne_iff_ne, ne_eq, bne_eq_false_iff_eq, beq_iff_eq, beq_eq_false_iff_ne, Bool.not_eq_true, Bool.not_eq_eq_eq_not, Bool.not_true, Bool.not_false, Classical.not_not, Int.not_lt, Int.not_le] at h
    · have hlt : i < xs.length := by omega
      simp -implicitDefEqProofs (disch := first | assumption | exact id rfl | omega | (simp only [AHeap.alloc_n, AHeap.put_n, SV.put_n, AHeap.kill_n, ne_eq, List.length_cons, List.length_nil]; omega)) only [slices_Min_int_int_18, slices_Min_int_int_19, slices_Min_int_int_20, slices_Min_int_int_21, SXs, cond_true, cond_false, env0, List.getElem?_cons_zero, List.getElem?_cons_succ, Nat.reduceEqDiff, if_true, if_false, ↓reduceIte, Nat.reduceAdd, Nat.zero_add, Nat.add_zero, Nat.mul_one, reduceCtorEq, e0, e3, e4, iarr_ld ha]
      refine ⟨xs.length - (i + 1), by omega, rfl, i + 1, _, rfl, by omega, by omega, e0, rfl, rfl, ?_, fun j hj => ?_⟩
      · split
        · simp [List.getD_eq_getElem?_getD, hlt]
        · exact hm
      · by_cases hji : j = i
        · subst hji; split <;> omega
        · have := hp j (by omega); split <;> omega
    · exact ⟨(by first | trivial | assumption), m, (by first | trivial | assumption), hm, fun y hy => by
        obtain ⟨k, hk, rfl⟩ := List.getElem_of_mem hy
        have := hp k (by omega)
        simpa [List.getD_eq_getElem?_getD, hk] using this⟩
  · rintro e G hn ⟨rfl, m, e3, hm, hp⟩
    simp -implicitDefEqProofs (disch := first | assumption | exact id rfl | omega | (simp only [AHeap.alloc_n, AHeap.put_n, SV.put_n, AHeap.kill_n, ne_eq, List.length_cons, List.length_nil]; omega)) only [slices_Min_int_int_22, slices_Min_int_int_23, aop_ld, aop_ldn, bodyK_ret, bodyK_normal, resL, resV, Option.map_some, oneV, blockK_exit, seqK_exit, seqK_ret, blockK_ret, loopK_exit, loopK_ret, rs_slices_Min_int_int, SXs, cond_true, cond_false, env0, List.getElem?_cons_zero, List.getElem?_cons_succ, Nat.reduceEqDiff, if_true, if_false, ↓reduceIte, Nat.reduceAdd, Nat.zero_add, Nat.add_zero, Nat.mul_one, reduceCtorEq, aop_ld, aop_ldn, bodyK_ret, bodyK_normal, resL, resV, Option.map_some, oneV, blockK_exit, seqK_exit, seqK_ret, blockK_ret, loopK_exit, loopK_ret, e3]
    exact ⟨m, rfl, hm, hp, (by first | trivial | assumption)⟩
end Go.AB
