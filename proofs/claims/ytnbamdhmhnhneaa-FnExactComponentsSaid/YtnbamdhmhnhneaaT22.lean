/- What is reached, as the specification finds it. -/
import Derived.Test.YtnbamdhmhnhneaaT21
set_option linter.unusedVariables false
set_option linter.unusedSimpArgs false
set_option maxRecDepth 10000
set_option maxHeartbeats 2000000
namespace Go.AB
open Go.Proofs
variable {w0 : World} {H : AHeap}

/-! ### slices of bool -/
def bls (bs : List Bool) : List Value := bs.map Value.bool
theorem bls_len {bs : List Bool} : (bls bs).length = bs.length := by simp [bls]
theorem bls_get {bs : List Bool} {j : Nat} (h : j < bs.length) : (bls bs).getD j undef = .bool (bs.getD j false) := by
  simp [bls, List.getD_eq_getElem?_getD, h]
abbrev BOwn (H : AHeap) (s : SV) (bs : List Bool) : Prop := Own H s 4 1 (bls bs)
theorem bown_len {s : SV} {bs : List Bool} (h : BOwn H s bs) : s.len = bs.length := by have := h.len; rw [bls_len] at this; omega
theorem bown_ld {s : SV} {bs : List Bool} (h : BOwn H s bs) {j : Nat} (hj : j < bs.length) : ldO H (some (s.p j)) = some (.bool (bs.getD j false), H) := by
  rw [h.arr.ld (by rw [bls_len]; exact hj), bls_get hj]
theorem bown_st {s : SV} {bs : List Bool} (h : BOwn H s bs) {j : Nat} {b : Bool} (hj : j < bs.length) : stO 1 H (some (s.p j)) (some (.bool b)) = some (.tuple #[], s.put H j [.bool b]) :=
  h.st rfl rfl (by omega) (by rw [bls_len]; omega)
theorem bown_put {s : SV} {bs : List Bool} (h : BOwn H s bs) {j : Nat} {b : Bool} (hj : j < bs.length) : BOwn (s.put H j [.bool b]) s (bs.set j b) := by
  have := h.put (j := j) (vs := [.bool b]) (by rw [bls_len]; simp; omega)
  rw [splice_one (by rw [bls_len]; exact hj)] at this
  have e : (bls bs).set j (.bool b) = bls (bs.set j b) := by simp [bls, List.map_set]
  rwa [e] at this
theorem falses {n : Nat} : (List.replicate n [Value.bool false]).flatten = bls (List.replicate n false) := by simp [bls, List.map_replicate]
theorem getB_set {bs : List Bool} {i j : Nat} {b d : Bool} (h : i < bs.length) : (bs.set i b).getD j d = if i = j then b else bs.getD j d := by
  simp only [List.getD_eq_getElem?_getD, List.getElem?_set]
  split
  · subst_vars; simp [h]
  · rfl
def cntF (bs : List Bool) : Nat := bs.countP (fun b => !b)
theorem cntF_set : ∀ {bs : List Bool} {i : Nat}, i < bs.length → bs.getD i false = false → cntF (bs.set i true) < cntF bs
  | [], i, h, _ => by simp at h
  | b :: bs, 0, h, hb => by
    simp only [List.getD_cons_zero] at hb; subst hb
    simp [cntF]
  | b :: bs, i + 1, h, hb => by
    have := cntF_set (bs := bs) (i := i) (by simpa using h) (by simpa using hb)
    simp only [cntF, List.set_cons_succ, List.countP_cons] at this ⊢
    omega
/-- The edges, as a relation. -/
def ER (es : List E4) (u v : Nat) : Prop := ∃ e ∈ es, e.f = u ∧ e.t = v

theorem l5reach_rets {s f : SV} {es : List E4} {N c : Nat} (hes : Arr H s 42 4 (EE.all es)) (ok : EsOk es N) (hN : N ≤ 1600) (hel : es.length ≤ 6400) (hf : IArr H f [(c : Int)]) (hc : c < N) :
    Rets Go.Proofs.Try.prog w0 27 [s.v, iv N, f.v] H fun v H' => ∃ (o : SV) (bs : List Bool), v = o.v ∧ BOwn H' o bs ∧ bs.length = N ∧ Ext H H' ∧ (∀ k, k < H.n → o.off k) ∧ ∀ u, u < N → (bs.getD u false = true ↔ Rch (ER es) c u) := by
  have hsl := enc_len hes (by omega)
  have hfl := iarr_len hf
  simp only [List.length_cons, List.length_nil] at hfl
  refine rets_fun rfl cf_s_l5reach (body_of ?_)
  simp -implicitDefEqProofs (disch := first | assumption | exact id rfl | omega | (simp only [AHeap.alloc_n, AHeap.put_n, SV.put_n, AHeap.kill_n, ne_eq, List.length_cons, List.length_nil]; omega)) only [s_l5reach_0, s_l5reach_1, s_l5reach_2, s_l5reach_3, s_l5reach_4, s_l5reach_5, s_l5reach_6, s_l5reach_7, s_l5reach_8, SXs, cond_true, cond_false, env0, List.getElem?_cons_zero, List.getElem?_cons_succ, Nat.reduceEqDiff, if_true, if_false, ↓reduceIte, Nat.reduceAdd, Nat.zero_add, Nat.add_zero, Nat.mul_one, reduceCtorEq, mksO_n, falses]
  have hO : BOwn (H.alloc (.cells (bls (List.replicate N false)) 4)) (.at H.n 0 N) (List.replicate N false) := Own.new (by simp [bls])
  have hE := Ext.alloc H (.cells (bls (List.replicate N false)) 4)
  generalize H.alloc (.cells (bls (List.replicate N false)) 4) = G at *
  have ias : ∀ (j : Nat) (G' : AHeap), j < N → iaO 1 (some (SV.at H.n 0 N).v) (some (iv j)) G' = some ((SV.at H.n 0 N).p j, G') := fun j G' hj => by rw [iaO_n (show j < (SV.at H.n 0 N).len from hj), Nat.mul_one]
  refine CW_midq (fun e G => ∃ bs, e 0 = some s.v ∧ e 7 = some (SV.at H.n 0 N).v ∧ Ext H G ∧ BOwn G (.at H.n 0 N) bs ∧ bs.length = N ∧ bs.getD c false = true ∧ ∀ u, u < N → bs.getD u false = true → u = c) ?_ ?_
  · refine CW_inv (fun n e G => ∃ (i : Nat) (bs : List Bool), n = 1 - i ∧ i ≤ 1 ∧ e 0 = some s.v ∧ e 2 = some f.v ∧ e 7 = some (SV.at H.n 0 N).v ∧ e 8 = some (iv i) ∧ Ext H G ∧ BOwn G (.at H.n 0 N) bs ∧ bs.length = N ∧ (i = 1 → bs.getD c false = true) ∧ ∀ u, u < N → bs.getD u false = true → u = c) 1
      ⟨0, _, rfl, by omega, rfl, rfl, rfl, rfl, hE, hO, by simp, fun h => by omega, fun u hu h => by simp [List.getD_eq_getElem?_getD, hu] at h⟩ ?_
    clear hE hO
    rintro n e G ⟨i, bs, hn, hi, e0, e2, e7, e8, hE, hO, hbl, hb1, hb2⟩
    have hfG := hf.ext hE
    simp -implicitDefEqProofs (disch := first | assumption | exact id rfl | omega | (simp only [AHeap.alloc_n, AHeap.put_n, SV.put_n, AHeap.kill_n, ne_eq, List.length_cons, List.length_nil]; omega)) only [s_l5reach_9, s_l5reach_10, s_l5reach_11, s_l5reach_12, CW_cond, SXs, cond_true, cond_false, env0, List.getElem?_cons_zero, List.getElem?_cons_succ, Nat.reduceEqDiff, if_true, if_false, ↓reduceIte, Nat.reduceAdd, Nat.zero_add, Nat.add_zero, Nat.mul_one, reduceCtorEq, e2, e8]
    refine condK_of (fun h => ?_) (fun h => ?_) <;> simp only [decide_eq_true_eq, decide_eq_false_iff_not, bne_iff_ne, ne_eq, bne_eq_false_iff_eq, beq_iff_eq, beq_eq_false_iff_ne, Bool.not_eq_true, Bool.not_eq_eq_eq_not, Bool.not_true, Bool.not_false, Classical.not_not, Int.not_lt, Int.not_le] at h
    · have hi0 : i = 0 := by omega
      subst hi0
      have hld : ldO G (some (f.p 0)) = some (iv c, G) := iarr_ld hfG (j := 0) (by simp)
      simp -implicitDefEqProofs (disch := first | assumption | exact id rfl | omega | (simp only [AHeap.alloc_n, AHeap.put_n, SV.put_n, AHeap.kill_n, ne_eq, List.length_cons, List.length_nil]; omega)) only [s_l5reach_13, s_l5reach_14, s_l5reach_15, s_l5reach_16, SXs, cond_true, cond_false, env0, List.getElem?_cons_zero, List.getElem?_cons_succ, Nat.reduceEqDiff, if_true, if_false, ↓reduceIte, Nat.reduceAdd, Nat.zero_add, Nat.add_zero, Nat.mul_one, reduceCtorEq, e2, e7, e8, hld, ias, bown_st (b := true) hO (show c < bs.length by omega)]
      refine ⟨0, by omega, 1, _, rfl, by omega, e0, e2, e7, rfl, hE.sput fun b hb => by simp only [SV.off]; omega, bown_put hO (by omega), by simp [hbl], fun _ => by rw [getB_set (by omega), if_pos rfl], fun u hu h => ?_⟩
      rw [getB_set (by omega)] at h
      split at h
      · omega
      · exact hb2 u hu h
    · exact ⟨bs, (by first | trivial | assumption), (by first | trivial | assumption), hE, hO, hbl, hb1 (by omega), hb2⟩
  clear hE hO
  rintro e G hn ⟨bs, e0, e7, hE, hO, hbl, hb1, hb2⟩
  simp -implicitDefEqProofs (disch := first | assumption | exact id rfl | omega | (simp only [AHeap.alloc_n, AHeap.put_n, SV.put_n, AHeap.kill_n, ne_eq, List.length_cons, List.length_nil]; omega)) only [s_l5reach_17, s_l5reach_18, SXs, cond_true, cond_false, env0, List.getElem?_cons_zero, List.getElem?_cons_succ, Nat.reduceEqDiff, if_true, if_false, ↓reduceIte, Nat.reduceAdd, Nat.zero_add, Nat.add_zero, Nat.mul_one, reduceCtorEq]
  refine CW_inv (fun n e G => ∃ bs : List Bool, n = cntF bs ∧ e 0 = some s.v ∧ e 7 = some (SV.at H.n 0 N).v ∧ Ext H G ∧ BOwn G (.at H.n 0 N) bs ∧ bs.length = N ∧ bs.getD c false = true ∧ ∀ u, u < N → bs.getD u false = true → Rch (ER es) c u) _
    ⟨bs, rfl, e0, e7, hE, hO, hbl, hb1, fun u hu h => by have := hb2 u hu h; subst this; exact .refl _⟩ ?_
  clear e0 e7 hE hO hbl hb1 hb2
  rintro n e G ⟨bs0, hn, e0, e7, hE, hO, hbl, hb1, hb2⟩
  simp -implicitDefEqProofs (disch := first | assumption | exact id rfl | omega | (simp only [AHeap.alloc_n, AHeap.put_n, SV.put_n, AHeap.kill_n, ne_eq, List.length_cons, List.length_nil]; omega)) only [s_l5reach_19, s_l5reach_20, s_l5reach_21, s_l5reach_22, s_l5reach_23, s_l5reach_24, s_l5reach_25, s_l5reach_26, SXs, cond_true, cond_false, env0, List.getElem?_cons_zero, List.getElem?_cons_succ, Nat.reduceEqDiff, if_true, if_false, ↓reduceIte, Nat.reduceAdd, Nat.zero_add, Nat.add_zero, Nat.mul_one, reduceCtorEq]
  refine CW_midq (fun e G => ∃ (bs : List Bool) (sm : Bool), e 0 = some s.v ∧ e 7 = some (SV.at H.n 0 N).v ∧ e 9 = some (.bool sm) ∧ Ext H G ∧ BOwn G (.at H.n 0 N) bs ∧ bs.length = N ∧ bs.getD c false = true ∧ (∀ u, u < N → bs.getD u false = true → Rch (ER es) c u) ∧ (sm = true → cntF bs < cntF bs0) ∧ (sm = false → ∀ e ∈ es, bs.getD e.f.toNat false = true → bs.getD e.t.toNat false = true)) ?_ ?_
  · refine CW_inv (fun n e G => ∃ (i : Nat) (bs : List Bool) (sm : Bool), n = es.length - i ∧ i ≤ es.length ∧ e 0 = some s.v ∧ e 7 = some (SV.at H.n 0 N).v ∧ e 9 = some (.bool sm) ∧ e 10 = some (iv i) ∧ Ext H G ∧ BOwn G (.at H.n 0 N) bs ∧ bs.length = N ∧ bs.getD c false = true ∧ (∀ u, u < N → bs.getD u false = true → Rch (ER es) c u) ∧ (sm = true → cntF bs < cntF bs0) ∧ (sm = false → bs = bs0 ∧ ∀ e ∈ es.take i, bs.getD e.f.toNat false = true → bs.getD e.t.toNat false = true)) es.length
      ⟨0, bs0, false, by simp, by simp, e0, e7, rfl, rfl, hE, hO, hbl, hb1, hb2, (fun h => by cases h), fun _ => ⟨rfl, fun e he => by simp at he⟩⟩ ?_
    clear e0 e7 hE hO hbl hb1 hb2
    rintro m e G ⟨i, bs, sm, hm, hi, e0, e7, e9, e10, hE, hO, hbl, hb1, hb2, hs1, hs2⟩
    simp -implicitDefEqProofs (disch := first | assumption | exact id rfl | omega | (simp only [AHeap.alloc_n, AHeap.put_n, SV.put_n, AHeap.kill_n, ne_eq, List.length_cons, List.length_nil]; omega)) only [s_l5reach_27, s_l5reach_28, s_l5reach_29, s_l5reach_30, CW_cond, SXs, cond_true, cond_false, env0, List.getElem?_cons_zero, List.getElem?_cons_succ, Nat.reduceEqDiff, if_true, if_false, ↓reduceIte, Nat.reduceAdd, Nat.zero_add, Nat.add_zero, Nat.mul_one, reduceCtorEq, e0, e10, hsl]
    refine condK_of (fun h => ?_) (fun h => ?_) <;> simp only [decide_eq_true_eq, decide_eq_false_iff_not, bne_iff_ne, ne_eq, bne_eq_false_iff_eq, beq_iff_eq, beq_eq_false_iff_ne, Bool.not_eq_true, Bool.not_eq_eq_eq_not, Bool.not_true, Bool.not_false, Classical.not_not, Int.not_lt, Int.not_le] at h
    · obtain ⟨ed, hed⟩ : ∃ ed, es[i]? = some ed := ⟨_, List.getElem?_eq_getElem (by omega)⟩
      have hmem := List.mem_of_getElem? hed
      have k1 := ok.f ed hmem
      have k2 := ok.t ed hmem
      obtain ⟨fn, hfn⟩ : ∃ fn : Nat, ed.f = fn := ⟨ed.f.toNat, by omega⟩
      obtain ⟨tn, htn⟩ : ∃ tn : Nat, ed.t = tn := ⟨ed.t.toNat, by omega⟩
      have q0 : (EE.cs ed)[0]? = some (iv fn) := by rw [EE0, hfn]
      have q1 : (EE.cs ed)[1]? = some (iv tn) := by rw [EE1, htn]
      have hesG := hes.ext hE
      have fas : ∀ (k : Nat) (G' : AHeap), faO k (some (s.p (i * 4))) G' = some (s.p (i * 4 + k), G') := fun k G' => faO_p (by omega)
      have i1 : iaO 4 (some s.v) (some (iv i)) G = some (s.p (i * 4), G) := iaO_n (by omega)
      have htk : es.take (i + 1) = es.take i ++ [ed] := by rw [List.take_add_one, hed]; rfl
      have keep : (bs.getD fn false = true → bs.getD tn false = true) → sm = false → bs = bs0 ∧ ∀ e ∈ es.take (i + 1), bs.getD e.f.toNat false = true → bs.getD e.t.toNat false = true := fun hk hsm => by
        refine ⟨(hs2 hsm).1, fun e he => ?_⟩
        rw [htk] at he
        rcases List.mem_append.1 he with he | he
        · exact (hs2 hsm).2 e he
        · simp at he; subst he
          rw [hfn, htn, Int.toNat_natCast, Int.toNat_natCast]; exact hk
      simp -implicitDefEqProofs (disch := first | assumption | exact id rfl | omega | (simp only [AHeap.alloc_n, AHeap.put_n, SV.put_n, AHeap.kill_n, ne_eq, List.length_cons, List.length_nil]; omega)) only [s_l5reach_31, s_l5reach_32, s_l5reach_33, s_l5reach_34, s_l5reach_35, CW_cond, SXs, cond_true, cond_false, env0, List.getElem?_cons_zero, List.getElem?_cons_succ, Nat.reduceEqDiff, if_true, if_false, ↓reduceIte, Nat.reduceAdd, Nat.zero_add, Nat.add_zero, Nat.mul_one, reduceCtorEq, e0, e7, e10, i1, fas, ldE hesG hed q0, ldE0 hesG hed q0, ias, bown_ld hO]
      refine bool_split (fun h1 => ?_) (fun h1 => ?_)
      · simp -implicitDefEqProofs (disch := first | assumption | exact id rfl | omega | (simp only [AHeap.alloc_n, AHeap.put_n, SV.put_n, AHeap.kill_n, ne_eq, List.length_cons, List.length_nil]; omega)) only [s_l5reach_34, s_l5reach_35, CW_cond, s_l5reach_35, CW_cond, SXs, cond_true, cond_false, env0, List.getElem?_cons_zero, List.getElem?_cons_succ, Nat.reduceEqDiff, if_true, if_false, ↓reduceIte, Nat.reduceAdd, Nat.zero_add, Nat.add_zero, Nat.mul_one, reduceCtorEq, e0, e7, e10, i1, fas, ldE hesG hed q1, ias, bown_ld hO]
        refine condK_of (fun h2 => ?_) (fun h2 => ?_) <;> simp only [decide_eq_true_eq, decide_eq_false_iff_not, bne_iff_ne, ne_eq, bne_eq_false_iff_eq, beq_iff_eq, beq_eq_false_iff_ne, Bool.not_eq_true, Bool.not_eq_eq_eq_not, Bool.not_true, Bool.not_false, Classical.not_not, Int.not_lt, Int.not_le] at h2
        · simp -implicitDefEqProofs (disch := first | assumption | exact id rfl | omega | (simp only [AHeap.alloc_n, AHeap.put_n, SV.put_n, AHeap.kill_n, ne_eq, List.length_cons, List.length_nil]; omega)) only [s_l5reach_36, s_l5reach_37, s_l5reach_38, s_l5reach_39, SXs, cond_true, cond_false, env0, List.getElem?_cons_zero, List.getElem?_cons_succ, Nat.reduceEqDiff, if_true, if_false, ↓reduceIte, Nat.reduceAdd, Nat.zero_add, Nat.add_zero, Nat.mul_one, reduceCtorEq, e0, e7, e10, i1, fas, ldE hesG hed q1, ias, bown_st (b := true) hO (show tn < bs.length by omega)]
          have hlt : cntF bs ≤ cntF bs0 := by
            cases sm with
            | true => exact Nat.le_of_lt (hs1 rfl)
            | false => rw [(hs2 rfl).1]; exact Nat.le_refl _
          have hcs := cntF_set (bs := bs) (i := tn) (by omega) h2
          refine ⟨es.length - (i + 1), by omega, i + 1, _, true, rfl, by omega, e0, e7, rfl, rfl, hE.sput fun b hb => by simp only [SV.off]; omega, bown_put hO (by omega), by simp [hbl], ?_, fun u hu h3 => ?_, fun _ => by omega, fun h => by cases h⟩
          · rw [getB_set (by omega)]; split
            · rfl
            · exact hb1
          · rw [getB_set (by omega)] at h3
            split at h3
            · rename_i htu; subst htu
              exact .step (hb2 fn (by omega) h1) ⟨ed, hmem, hfn, htn⟩
            · exact hb2 u hu h3
        · simp -implicitDefEqProofs (disch := first | assumption | exact id rfl | omega | (simp only [AHeap.alloc_n, AHeap.put_n, SV.put_n, AHeap.kill_n, ne_eq, List.length_cons, List.length_nil]; omega)) only [s_l5reach_39, SXs, cond_true, cond_false, env0, List.getElem?_cons_zero, List.getElem?_cons_succ, Nat.reduceEqDiff, if_true, if_false, ↓reduceIte, Nat.reduceAdd, Nat.zero_add, Nat.add_zero, Nat.mul_one, reduceCtorEq, e10]
          exact ⟨es.length - (i + 1), by omega, i + 1, bs, sm, rfl, by omega, e0, e7, e9, rfl, hE, hO, hbl, hb1, hb2, hs1, keep fun _ => by simpa using h2⟩
      · simp -implicitDefEqProofs (disch := first | assumption | exact id rfl | omega | (simp only [AHeap.alloc_n, AHeap.put_n, SV.put_n, AHeap.kill_n, ne_eq, List.length_cons, List.length_nil]; omega)) only [s_l5reach_34, s_l5reach_35, CW_cond, s_l5reach_35, CW_cond, s_l5reach_39, SXs, cond_true, cond_false, env0, List.getElem?_cons_zero, List.getElem?_cons_succ, Nat.reduceEqDiff, if_true, if_false, ↓reduceIte, Nat.reduceAdd, Nat.zero_add, Nat.add_zero, Nat.mul_one, reduceCtorEq, condK_false, e10]
        exact ⟨es.length - (i + 1), by omega, i + 1, bs, sm, rfl, by omega, e0, e7, e9, rfl, hE, hO, hbl, hb1, hb2, hs1, keep fun h3 => by rw [h1] at h3; cases h3⟩
    · have hil : i = es.length := by omega
      rw [hil, List.take_length] at hs2
      exact ⟨bs, sm, (by first | trivial | assumption), (by first | trivial | assumption), (by first | trivial | assumption), hE, hO, hbl, hb1, hb2, hs1, fun h => (hs2 h).2⟩
  · clear e0 e7 hE hO hbl hb1 hb2
    rintro e G hn' ⟨bs, sm, e0, e7, e9, hE, hO, hbl, hb1, hb2, hs1, hs2⟩
    simp -implicitDefEqProofs (disch := first | assumption | exact id rfl | omega | (simp only [AHeap.alloc_n, AHeap.put_n, SV.put_n, AHeap.kill_n, ne_eq, List.length_cons, List.length_nil]; omega)) only [s_l5reach_40, s_l5reach_41, s_l5reach_42, CW_cond, SXs, cond_true, cond_false, env0, List.getElem?_cons_zero, List.getElem?_cons_succ, Nat.reduceEqDiff, if_true, if_false, ↓reduceIte, Nat.reduceAdd, Nat.zero_add, Nat.add_zero, Nat.mul_one, reduceCtorEq, e9]
    refine condK_of (fun h => ?_) (fun h => ?_) <;> simp only [decide_eq_true_eq, decide_eq_false_iff_not, bne_iff_ne, ne_eq, bne_eq_false_iff_eq, beq_iff_eq, beq_eq_false_iff_ne, Bool.not_eq_true, Bool.not_eq_eq_eq_not, Bool.not_true, Bool.not_false, Classical.not_not, Int.not_lt, Int.not_le] at h
    · simp -implicitDefEqProofs (disch := first | assumption | exact id rfl | omega | (simp only [AHeap.alloc_n, AHeap.put_n, SV.put_n, AHeap.kill_n, ne_eq, List.length_cons, List.length_nil]; omega)) only [s_l5reach_43, s_l5reach_44, aop_ld, aop_ldn, bodyK_ret, bodyK_normal, resL, resV, Option.map_some, oneV, blockK_exit, seqK_exit, seqK_ret, blockK_ret, loopK_exit, loopK_ret, rs_s_l5reach, SXs, cond_true, cond_false, env0, List.getElem?_cons_zero, List.getElem?_cons_succ, Nat.reduceEqDiff, if_true, if_false, ↓reduceIte, Nat.reduceAdd, Nat.zero_add, Nat.add_zero, Nat.mul_one, reduceCtorEq, aop_ld, aop_ldn, bodyK_ret, bodyK_normal, resL, resV, Option.map_some, oneV, blockK_exit, seqK_exit, seqK_ret, blockK_ret, loopK_exit, loopK_ret, e7]
      refine ⟨_, bs, rfl, hO, hbl, hE, fun k hk => by simp only [SV.off]; omega, fun u hu => ⟨hb2 u hu, fun hr => ?_⟩⟩
      refine (hr.closed (T := fun v => bs.getD v false = true) (fun a b ha hab => ?_) hb1)
      obtain ⟨ed, hed, h1, h2⟩ := hab
      have := hs2 h ed hed
      rw [h1, h2, Int.toNat_natCast, Int.toNat_natCast] at this
      exact this ha
    · exact ⟨cntF bs, by rw [hn]; exact hs1 h, bs, rfl, e0, e7, hE, hO, hbl, hb1, hb2⟩
end Go.AB
