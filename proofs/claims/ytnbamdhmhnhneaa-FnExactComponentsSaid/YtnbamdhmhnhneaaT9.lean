/- slices.Repeat of one number. -/
import Derived.Test.YtnbamdhmhnhneaaT6
import Derived.WalkSmall
set_option linter.unusedVariables false
set_option linter.unusedSimpArgs false
set_option maxRecDepth 10000
namespace Go.AB
open Go.Proofs
variable {w0 : World} {H : AHeap}

abbrev uv (n : Int) : Value := .int .u64 n
theorem u64_in (n : Int) (h : 0 ≤ n ∧ n ≤ 18446744073709551615) : IntKind.u64.wrap n = n := by
  simp only [IntKind.wrap, IntKind.bits, IntKind.signed, Bool.false_and, Bool.false_eq_true, if_false]
  omega
theorem and32 {n : Nat} (h : n < 4294967296) : binO .and H (some (uv n)) (some (uv 4294967295)) = some (uv n, H) := by
  have : Go.bits .and .u64 (n : Int) 4294967295 = (n : Int) := by
    have h1 := Go.bits_and_u64_nat n 4294967295 (by omega) (by omega)
    have h2 : n &&& 4294967295 = n % 2 ^ 32 := Nat.and_two_pow_sub_one_eq_mod n 32
    rw [h2, Nat.mod_eq_of_lt (by omega)] at h1
    exact h1
  simp [binO, abin, this]
theorem and32_1 : binO .and H (some (uv 1)) (some (uv 4294967295)) = some (uv 1, H) := and32 (n := 1) (by omega)
theorem and32_0 : binO .and H (some (uv 0)) (some (uv 4294967295)) = some (uv 0, H) := and32 (n := 0) (by omega)
theorem shr32 {n : Int} (h : 0 ≤ n ∧ n < 4294967296) : binO .shr H (some (uv n)) (some (uv 32)) = some (uv 0, H) := by
  have : n.fdiv (2 ^ min (32 : Int).toNat IntKind.u64.bits) = 0 := by
    show n.fdiv 4294967296 = 0
    rw [Int.fdiv_eq_ediv_of_nonneg _ (by omega)]; omega
  simp only [binO, abin, this]; rfl
theorem umul {a b : Int} (h : 0 ≤ a * b ∧ a * b ≤ 18446744073709551615) : binO .mul H (some (uv a)) (some (uv b)) = some (uv (a * b), H) := by simp [binO, abin, u64_in _ h]
theorem uadd {a b : Int} (h : 0 ≤ a + b ∧ a + b ≤ 18446744073709551615) : binO .add H (some (uv a)) (some (uv b)) = some (uv (a + b), H) := by simp [binO, abin, u64_in _ h]
theorem cvi_u64 {k : IntKind} {a : Int} (h : 0 ≤ a ∧ a ≤ 9223372036854775807) : cviO .u64 H (some (.int k a)) = some (uv a, H) := by simp [cviO, u64_in _ (show 0 ≤ a ∧ a ≤ 18446744073709551615 by omega)]

theorem mul64_rets {n : Nat} (h : n < 4294967296) : Rets Go.Proofs.Try.prog w0 37 [uv 1, uv n] H fun v H' => v = .tuple #[uv 0, uv n] ∧ H' = H := by
  refine rets_fun rfl cf_math_bits_Mul64 (body_of ?_)
  have e1 : (1 : Int) * n = n := by omega
  simp -implicitDefEqProofs (disch := first | assumption | exact id rfl | omega | (simp only [AHeap.alloc_n, AHeap.put_n, SV.put_n, AHeap.kill_n, ne_eq, List.length_cons, List.length_nil]; omega)) only [math_bits_Mul64_0, math_bits_Mul64_1, math_bits_Mul64_2, math_bits_Mul64_3, math_bits_Mul64_4, math_bits_Mul64_5, math_bits_Mul64_6, math_bits_Mul64_7, math_bits_Mul64_8, math_bits_Mul64_9, math_bits_Mul64_10, math_bits_Mul64_11, math_bits_Mul64_12, math_bits_Mul64_13, math_bits_Mul64_14, math_bits_Mul64_15, math_bits_Mul64_16, math_bits_Mul64_17, math_bits_Mul64_18, math_bits_Mul64_19, math_bits_Mul64_20, math_bits_Mul64_21, math_bits_Mul64_22, math_bits_Mul64_23, aop_ld, aop_ldn, bodyK_ret, bodyK_normal, resL, resV, Option.map_some, oneV, blockK_exit, seqK_exit, seqK_ret, blockK_ret, loopK_exit, loopK_ret, rs_math_bits_Mul64, SXs, cond_true, cond_false, env0, List.getElem?_cons_zero, List.getElem?_cons_succ, Nat.reduceEqDiff, if_true, if_false, ↓reduceIte, Nat.reduceAdd, Nat.zero_add, Nat.add_zero, Nat.mul_one, reduceCtorEq, aop_ld, aop_ldn, bodyK_ret, bodyK_normal, resL, resV, Option.map_some, oneV, blockK_exit, seqK_exit, seqK_ret, blockK_ret, loopK_exit, loopK_ret, and32_1, and32 h, and32_0, shr32, umul, uadd, Int.mul_zero, Int.zero_mul, e1, Int.add_zero]
  exact ⟨trivial, trivial⟩
theorem mul_rets {n : Nat} (h : n < 4294967296) : Rets Go.Proofs.Try.prog w0 33 [uv 1, uv n] H fun v H' => v = .tuple #[uv 0, uv n] ∧ H' = H := by
  refine rets_fun rfl cf_math_bits_Mul (body_of ?_)
  simp -implicitDefEqProofs (disch := first | assumption | exact id rfl | omega | (simp only [AHeap.alloc_n, AHeap.put_n, SV.put_n, AHeap.kill_n, ne_eq, List.length_cons, List.length_nil]; omega)) only [math_bits_Mul_0, math_bits_Mul_1, math_bits_Mul_2, math_bits_Mul_3, CW_cond, math_bits_Mul_8, math_bits_Mul_9, math_bits_Mul_10, math_bits_Mul_11, aop_ld, aop_ldn, bodyK_ret, bodyK_normal, resL, resV, Option.map_some, oneV, blockK_exit, seqK_exit, seqK_ret, blockK_ret, loopK_exit, loopK_ret, rs_math_bits_Mul, SXs, cond_true, cond_false, env0, List.getElem?_cons_zero, List.getElem?_cons_succ, Nat.reduceEqDiff, if_true, if_false, ↓reduceIte, Nat.reduceAdd, Nat.zero_add, Nat.add_zero, Nat.mul_one, reduceCtorEq, condK_false]
  refine (mul64_rets h).mono ?_
  rintro _ _ _ ⟨rfl, rfl⟩
  have x0 : ∀ G : AHeap, extO 0 G (some (.tuple #[uv 0, uv n])) = some (uv 0, G) := fun G => rfl
  have x1 : ∀ G : AHeap, extO 1 G (some (.tuple #[uv 0, uv n])) = some (uv n, G) := fun G => rfl
  simp -implicitDefEqProofs (disch := first | assumption | exact id rfl | omega | (simp only [AHeap.alloc_n, AHeap.put_n, SV.put_n, AHeap.kill_n, ne_eq, List.length_cons, List.length_nil]; omega)) only [math_bits_Mul_10, math_bits_Mul_11, aop_ld, aop_ldn, bodyK_ret, bodyK_normal, resL, resV, Option.map_some, oneV, blockK_exit, seqK_exit, seqK_ret, blockK_ret, loopK_exit, loopK_ret, rs_math_bits_Mul, SXs, cond_true, cond_false, env0, List.getElem?_cons_zero, List.getElem?_cons_succ, Nat.reduceEqDiff, if_true, if_false, ↓reduceIte, Nat.reduceAdd, Nat.zero_add, Nat.add_zero, Nat.mul_one, reduceCtorEq, aop_ld, aop_ldn, bodyK_ret, bodyK_normal, resL, resV, Option.map_some, oneV, blockK_exit, seqK_exit, seqK_ret, blockK_ret, loopK_exit, loopK_ret, x0, x1]
  exact ⟨trivial, trivial⟩
theorem rep_splice {k n m : Nat} {c : Int} (hk : k ≤ n) (hm : m ≤ k) (hm2 : m ≤ n - k) :
    splice (ints (List.replicate k c ++ List.replicate (n - k) 0)) k ((((ints (List.replicate k c ++ List.replicate (n - k) 0)).drop (0 * 1)).take ((k - 0) * 1)).take (m * 1)) = ints (List.replicate (k + m) c ++ List.replicate (n - (k + m)) 0) := by
  have e1 : (ints (List.replicate k c ++ List.replicate (n - k) 0)).take k = ints (List.replicate k c) := by
    simp [ints]
  have e2 : (ints (List.replicate k c)).take m = ints (List.replicate m c) := by simp [ints, List.take_replicate, Nat.min_eq_left hm]
  have e3 : (ints (List.replicate k c ++ List.replicate (n - k) 0)).drop (k + m) = ints (List.replicate (n - (k + m)) 0) := by
    have : n - k - m = n - (k + m) := by omega
    simp [ints, List.drop_append, List.drop_replicate, this]
  rw [Nat.mul_one, Nat.mul_one, Nat.zero_mul, List.drop_zero, Nat.sub_zero, e1, e2]
  unfold splice
  rw [e1, show (ints (List.replicate m c)).length = m by simp [ints], e3, ints_app, ints_app, List.replicate_append_replicate]
theorem repeat_rets {s : SV} {c : Int} {n : Nat} (hs : IArr H s [c]) (hn : 1 ≤ n ∧ n ≤ 2 ^ 30) : Rets Go.Proofs.Try.prog w0 22 [s.v, iv n] H fun v H' => v = (SV.at H.n 0 n).v ∧ IOwn H' (.at H.n 0 n) (List.replicate n c) ∧ Ext H H' := by
  have hl := iarr_len hs
  simp only [List.length_cons, List.length_nil] at hl
  refine rets_fun rfl cf_slices_Repeat_int_int (body_of ?_)
  simp -implicitDefEqProofs (disch := first | assumption | exact id rfl | omega | (simp only [AHeap.alloc_n, AHeap.put_n, SV.put_n, AHeap.kill_n, ne_eq, List.length_cons, List.length_nil]; omega)) only [slices_Repeat_int_int_0, slices_Repeat_int_int_1, slices_Repeat_int_int_2, slices_Repeat_int_int_3, slices_Repeat_int_int_4, slices_Repeat_int_int_5, CW_cond, SXs, cond_true, cond_false, env0, List.getElem?_cons_zero, List.getElem?_cons_succ, Nat.reduceEqDiff, if_true, if_false, ↓reduceIte, Nat.reduceAdd, Nat.zero_add, Nat.add_zero, Nat.mul_one, reduceCtorEq]
  refine condK_of (fun h => ?_) (fun h => ?_) <;> simp only [decide_eq_true_eq, decide_eq_false_iff_not, bne_iff_ne, ne_eq, bne_eq_false_iff_eq, beq_iff_eq, beq_eq_false_iff_ne, Bool.not_eq_true, Bool.not_eq_eq_eq_not, Bool.not_true, Bool.not_false, Classical.not_not, Int.not_lt, Int.not_le] at h
  · omega
  clear h
  have hl' : ((s.len : Nat) : Int) = 1 := by omega
  simp -implicitDefEqProofs (disch := first | assumption | exact id rfl | omega | (simp only [AHeap.alloc_n, AHeap.put_n, SV.put_n, AHeap.kill_n, ne_eq, List.length_cons, List.length_nil]; omega)) only [slices_Repeat_int_int_7, slices_Repeat_int_int_8, slices_Repeat_int_int_9, slices_Repeat_int_int_10, slices_Repeat_int_int_11, slices_Repeat_int_int_12, CW_cond, SXs, cond_true, cond_false, env0, List.getElem?_cons_zero, List.getElem?_cons_succ, Nat.reduceEqDiff, if_true, if_false, ↓reduceIte, Nat.reduceAdd, Nat.zero_add, Nat.add_zero, Nat.mul_one, reduceCtorEq, cvi_u64, hl']
  refine (mul_rets (by omega)).mono ?_
  rintro _ H _ ⟨rfl, rfl⟩
  have x0 : ∀ G : AHeap, extO 0 G (some (.tuple #[uv 0, uv n])) = some (uv 0, G) := fun G => rfl
  have x1 : ∀ G : AHeap, extO 1 G (some (.tuple #[uv 0, uv n])) = some (uv n, G) := fun G => rfl
  simp -implicitDefEqProofs (disch := first | assumption | exact id rfl | omega | (simp only [AHeap.alloc_n, AHeap.put_n, SV.put_n, AHeap.kill_n, ne_eq, List.length_cons, List.length_nil]; omega)) only [slices_Repeat_int_int_9, slices_Repeat_int_int_10, slices_Repeat_int_int_11, slices_Repeat_int_int_12, CW_cond, SXs, cond_true, cond_false, env0, List.getElem?_cons_zero, List.getElem?_cons_succ, Nat.reduceEqDiff, if_true, if_false, ↓reduceIte, Nat.reduceAdd, Nat.zero_add, Nat.add_zero, Nat.mul_one, reduceCtorEq, x0, x1]
  refine condK_of (fun h => absurd h (by simp; omega)) (fun h => ?_)
  clear h
  have cv : ∀ G : AHeap, cviO .i64 G (some (uv n)) = some (iv n, G) := fun G => cvi_i64 (by omega)
  have zr : (List.replicate n [Value.int .i64 0]).flatten = ints (List.replicate n 0) := by simp [ints, List.map_replicate]
  have ho : IOwn (H.alloc (.cells (ints (List.replicate n 0)) 3)) (.at H.n 0 n) (List.replicate n 0) := Own.new (by simp [ints])
  have hE : Ext H (H.alloc (.cells (ints (List.replicate n 0)) 3)) := Ext.alloc _ _
  have hcp := ho.copy (hs.ext hE)
  have ln : (SV.at H.n 0 n).len = n := rfl
  rw [show s.len = 1 by omega, ln, Nat.min_eq_left hn.1, Nat.mul_one] at hcp
  simp -implicitDefEqProofs (disch := first | assumption | exact id rfl | omega | (simp only [AHeap.alloc_n, AHeap.put_n, SV.put_n, AHeap.kill_n, ne_eq, List.length_cons, List.length_nil]; omega)) only [slices_Repeat_int_int_14, slices_Repeat_int_int_15, slices_Repeat_int_int_16, slices_Repeat_int_int_17, slices_Repeat_int_int_18, slices_Repeat_int_int_19, slices_Repeat_int_int_20, SXs, cond_true, cond_false, env0, List.getElem?_cons_zero, List.getElem?_cons_succ, Nat.reduceEqDiff, if_true, if_false, ↓reduceIte, Nat.reduceAdd, Nat.zero_add, Nat.add_zero, Nat.mul_one, reduceCtorEq, cv, mksO_n, zr, hcp]
  have ho2 : IOwn ((SV.at H.n 0 n).put (H.alloc (.cells (ints (List.replicate n 0)) 3)) 0 ((ints [c]).take 1)) (.at H.n 0 n) (List.replicate 1 c ++ List.replicate (n - 1) 0) := by
    have := iown_put (n := c) ho (j := 0) (by simp; omega)
    have e : (List.replicate n (0 : Int)).set 0 c = List.replicate 1 c ++ List.replicate (n - 1) 0 := by
      obtain ⟨k, rfl⟩ : ∃ k, n = k + 1 := ⟨n - 1, by omega⟩
      simp [List.replicate_succ]
    rw [e] at this; exact this
  have hE2 : Ext H ((SV.at H.n 0 n).put (H.alloc (.cells (ints (List.replicate n 0)) 3)) 0 ((ints [c]).take 1)) := hE.sput fun b hb => by simp only [SV.off]; omega
  generalize (SV.at H.n 0 n).put (H.alloc (.cells (ints (List.replicate n 0)) 3)) 0 ((ints [c]).take 1) = G at *
  refine CW_inv (fun m e G => ∃ k : Nat, m = n - k ∧ 1 ≤ k ∧ k ≤ n ∧ e 7 = some (SV.at H.n 0 n).v ∧ e 8 = some (iv k) ∧ IOwn G (.at H.n 0 n) (List.replicate k c ++ List.replicate (n - k) 0) ∧ Ext H G) (n - 1)
    ⟨1, rfl, by omega, hn.1, rfl, rfl, ho2, hE2⟩ ?_
  clear ho ho2 hE hE2 hcp
  clear G
  rintro m e G ⟨k, hm, hk1, hk2, e7, e8, ho, hE⟩
  simp -implicitDefEqProofs (disch := first | assumption | exact id rfl | omega | (simp only [AHeap.alloc_n, AHeap.put_n, SV.put_n, AHeap.kill_n, ne_eq, List.length_cons, List.length_nil]; omega)) only [slices_Repeat_int_int_21, slices_Repeat_int_int_22, slices_Repeat_int_int_23, slices_Repeat_int_int_24, CW_cond, SXs, cond_true, cond_false, env0, List.getElem?_cons_zero, List.getElem?_cons_succ, Nat.reduceEqDiff, if_true, if_false, ↓reduceIte, Nat.reduceAdd, Nat.zero_add, Nat.add_zero, Nat.mul_one, reduceCtorEq, e7, e8, ln]
  refine condK_of (fun h => ?_) (fun h => ?_) <;> simp only [decide_eq_true_eq, decide_eq_false_iff_not, bne_iff_ne, ne_eq, bne_eq_false_iff_eq, beq_iff_eq, beq_eq_false_iff_ne, Bool.not_eq_true, Bool.not_eq_eq_eq_not, Bool.not_true, Bool.not_false, Classical.not_not, Int.not_lt, Int.not_le] at h
  · have hkn : k < n := by omega
    have c1 : ∀ G : AHeap, IOwn G (.at H.n 0 n) (List.replicate k c ++ List.replicate (n - k) 0) → slcO 3 1 (some (SV.at H.n 0 n).v) (some (some (iv k))) (some none) G = some (((SV.at H.n 0 n).cut 1 k n).v, G) := fun G ho => ho.arr.slc (cut_lo hk2)
    have c2 : ∀ G : AHeap, IOwn G (.at H.n 0 n) (List.replicate k c ++ List.replicate (n - k) 0) → slcO 3 1 (some (SV.at H.n 0 n).v) (some none) (some (some (iv k))) G = some (((SV.at H.n 0 n).cut 1 0 k).v, G) := fun G ho => ho.arr.slc (cut_hi hk2)
    have hcp := (Own.cut ho (l := k) (r := n) hk2 (Nat.le_refl _)).copy (Arr.cut ho.arr (l := 0) (r := k) (by omega) hk2)
    have hp := Own.put ho (j := k) (vs := (((ints (List.replicate k c ++ List.replicate (n - k) 0)).drop (0 * 1)).take ((k - 0) * 1)).take (min k (n - k) * 1)) (by simp [ints]; omega)
    rw [rep_splice hk2 (Nat.min_le_left _ _) (Nat.min_le_right _ _)] at hp
    have hE2 : Ext H ((SV.at H.n 0 n).put G k ((((ints (List.replicate k c ++ List.replicate (n - k) 0)).drop (0 * 1)).take ((k - 0) * 1)).take (min k (n - k) * 1))) := hE.sput fun b hb => by simp only [SV.off]; omega
    have l1 : ((SV.at H.n 0 n).cut 1 0 k).len = k := rfl
    have l2 : ((SV.at H.n 0 n).cut 1 k n).len = n - k := rfl
    have p1 : ∀ vs, ((SV.at H.n 0 n).cut 1 k n).put G 0 vs = (SV.at H.n 0 n).put G k vs := fun vs => by simp [SV.cut, SV.put]
    rw [l1, l2, p1] at hcp
    have e9 : ((k : Int) + (min k (n - k) : Nat)) = ((k + min k (n - k) : Nat) : Int) := by omega
    simp -implicitDefEqProofs (disch := first | assumption | exact id rfl | omega | (simp only [AHeap.alloc_n, AHeap.put_n, SV.put_n, AHeap.kill_n, ne_eq, List.length_cons, List.length_nil]; omega)) only [slices_Repeat_int_int_25, slices_Repeat_int_int_26, SXs, cond_true, cond_false, env0, List.getElem?_cons_zero, List.getElem?_cons_succ, Nat.reduceEqDiff, if_true, if_false, ↓reduceIte, Nat.reduceAdd, Nat.zero_add, Nat.add_zero, Nat.mul_one, reduceCtorEq, e7, e8, c1 G ho, c2 G ho, hcp, e9]
    exact ⟨n - (k + min k (n - k)), by omega, k + min k (n - k), rfl, by omega, by omega, e7, rfl, by simpa only [Nat.mul_one, Nat.zero_mul] using hp, by simpa only [Nat.mul_one, Nat.zero_mul] using hE2⟩
  · have hkn : k = n := by omega
    subst hkn
    simp -implicitDefEqProofs (disch := first | assumption | exact id rfl | omega | (simp only [AHeap.alloc_n, AHeap.put_n, SV.put_n, AHeap.kill_n, ne_eq, List.length_cons, List.length_nil]; omega)) only [slices_Repeat_int_int_27, slices_Repeat_int_int_28, aop_ld, aop_ldn, bodyK_ret, bodyK_normal, resL, resV, Option.map_some, oneV, blockK_exit, seqK_exit, seqK_ret, blockK_ret, loopK_exit, loopK_ret, rs_slices_Repeat_int_int, SXs, cond_true, cond_false, env0, List.getElem?_cons_zero, List.getElem?_cons_succ, Nat.reduceEqDiff, if_true, if_false, ↓reduceIte, Nat.reduceAdd, Nat.zero_add, Nat.add_zero, Nat.mul_one, reduceCtorEq, aop_ld, aop_ldn, bodyK_ret, bodyK_normal, resL, resV, Option.map_some, oneV, blockK_exit, seqK_exit, seqK_ret, blockK_ret, loopK_exit, loopK_ret, e7]
    rw [Nat.sub_self, List.replicate_zero, List.append_nil] at ho
    exact ⟨trivial, ho, hE⟩
end Go.AB
