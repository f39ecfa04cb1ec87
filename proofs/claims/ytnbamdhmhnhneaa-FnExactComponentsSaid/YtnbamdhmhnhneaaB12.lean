/- Own framework, part 12: a region whose operations come up in any order, shown. -/
import Derived.Test.YtnbamdhmhnhneaaB11
set_option linter.unusedVariables false
set_option linter.unusedSimpArgs false
namespace Go.AB
open Go.RowKit
variable {P : Program} {w0 w w' ws : World} {ι ι' ι0 : Inj} {H H' H0 : AHeap} {pv : List Nat} {nt : Nat} {e e0 : Env} {a : Act}

/-! ### The trace -/
def Run1 (P : Program) (w0 : World) (q : AOp) (rs : List Value) (e : Env) (H : AHeap) (v : Value) (t : Option Nat) (H' : AHeap) : Prop :=
  (∃ f xs vs, q = .call f xs ∧ evs (ev rs e) xs = some vs ∧ CallS P w0 f vs H (fun u G => u = v ∧ G = H') ∧ H.n ≤ H'.n ∧ t = none) ∨
  (∃ x xs vs tv f fs cs, q = .callv x xs ∧ ev rs e x = some tv ∧ evs (ev rs e) xs = some vs ∧ target tv = some (f, fs, cs) ∧ callable P f = true ∧ CallS P w0 f (fs ++ vs ++ cs) H (fun u G => u = v ∧ G = H') ∧ H.n ≤ H'.n ∧ t = none) ∨
  (aop q (ev rs e) H = some (v, H') ∧ t = touch q (ev rs e) H)
def Step1 (P : Program) (w0 : World) (o : AOper) (rs : List Value) (e : Env) (H : AHeap) (v : Value) (t : Option Nat) (H' : AHeap) : Prop :=
  (gd rs o.guard = some false ∧ v = undef ∧ t = none ∧ H' = H) ∨ (gd rs o.guard = some true ∧ Run1 P w0 o.op rs e H v t H')

theorem Run1.mono {q : AOp} {rs : List Value} {v : Value} {t : Option Nat} (h : Run1 P w0 q rs e H v t H') : H.n ≤ H'.n := by
  rcases h with ⟨_, _, _, _, _, _, h, _⟩ | ⟨_, _, _, _, _, _, _, _, _, _, _, _, _, h, _⟩ | ⟨h, _⟩
  · exact h
  · exact h
  · exact aop_mono h
theorem Step1.mono {o : AOper} {rs : List Value} {v : Value} {t : Option Nat} (h : Step1 P w0 o rs e H v t H') : H.n ≤ H'.n := by
  rcases h with ⟨_, _, _, rfl⟩ | ⟨_, h⟩
  · exact Nat.le_refl _
  · exact h.mono
theorem Run1.aop {q : AOp} {rs : List Value} {v : Value} {t : Option Nat} (h : Run1 P w0 q rs e H v t H') (hc : cls q ≠ 3) : aop q (ev rs e) H = some (v, H') ∧ t = touch q (ev rs e) H := by
  rcases h with ⟨_, _, _, rfl, _⟩ | ⟨_, _, _, _, _, _, _, rfl, _⟩ | h
  · simp [cls] at hc
  · simp [cls] at hc
  · exact h
theorem cls_lt (q : AOp) : cls q = 0 ∨ cls q = 1 ∨ cls q = 2 ∨ cls q = 3 := by cases q <;> simp [cls]

/-- What is no chain's link leaves every object that there is. -/
theorem Step1.quiet {o : AOper} {rs : List Value} {v : Value} {t : Option Nat} (h : Step1 P w0 o rs e H v t H') (hc : cls o.op ≠ 3) {b : Nat} (hb : b < H.n) : H'.get b = H.get b := by
  rcases h with ⟨_, _, _, rfl⟩ | ⟨_, h⟩
  · rfl
  · have h := (h.aop hc).1
    rcases cls_lt o.op with c | c | c | c
    · rw [(aop_pure c h).1]
    · rw [(aop_read c h).1]
    · obtain ⟨x, _, rfl, _⟩ := aop_new c h
      exact AHeap.alloc_ne H x (Nat.ne_of_lt hb)
    · exact absurd c hc

def revs (V : Nat → Value) (i : Nat) : List Value := ((List.range i).map V).reverse
theorem revs_succ (V : Nat → Value) (i : Nat) : revs V (i + 1) = V i :: revs V i := by simp [revs, List.range_succ]
theorem revs_shift (V : Nat → Value) (i : Nat) : revs V (i + 1) = revs (fun j => V (j + 1)) i ++ [V 0] := by
  simp [revs, List.range_succ_eq_map, List.map_map, Function.comp_def]
theorem revs_length (V : Nat → Value) (i : Nat) : (revs V i).length = i := by simp [revs]
theorem revs_get (V : Nat → Value) : ∀ (i k : Nat), (revs V i)[k]? = if k < i then some (V (i - 1 - k)) else none
  | 0, k => by simp [revs]
  | i + 1, k => by
    rw [revs_succ]
    cases k with
    | zero => simp
    | succ k =>
      rw [List.getElem?_cons_succ, revs_get V i k]
      by_cases h : k < i
      · rw [if_pos h, if_pos (by omega)]
        have : i + 1 - 1 - (k + 1) = i - 1 - k := by omega
        rw [this]
      · rw [if_neg h, if_neg (by omega)]

structure Trace (P : Program) (w0 : World) (l : List AOper) (rs : List Value) (V : Nat → Value) (Hs : Nat → AHeap) (T : Nat → Option Nat) (Es : Nat → Env) : Prop where
  step : ∀ (i : Nat) o, l[i]? = some o → Step1 P w0 o (revs V i ++ rs) (Es i) (Hs i) (V i) (T i) (Hs (i + 1))
  env : ∀ (i : Nat) o, l[i]? = some o → Es (i + 1) = (Es i).put o.dst (V i)

def recsOf (Hs : Nat → AHeap) (T : Nat → Option Nat) : Nat → List Rec
  | 0 => []
  | i + 1 => ⟨T i, Hs i, Hs (i + 1)⟩ :: recsOf Hs T i
theorem recsOf_shift (Hs : Nat → AHeap) (T : Nat → Option Nat) : ∀ i, recsOf Hs T (i + 1) = recsOf (fun j => Hs (j + 1)) (fun j => T (j + 1)) i ++ [⟨T 0, Hs 0, Hs 1⟩]
  | 0 => rfl
  | i + 1 => by
    rw [recsOf, recsOf_shift Hs T i]; rfl
theorem recsOf_length (Hs : Nat → AHeap) (T : Nat → Option Nat) : ∀ i, (recsOf Hs T i).length = i
  | 0 => rfl
  | i + 1 => by simp [recsOf, recsOf_length Hs T i]
theorem recsOf_get (Hs : Nat → AHeap) (T : Nat → Option Nat) : ∀ (i k : Nat), k < i → (recsOf Hs T i)[i - 1 - k]? = some ⟨T k, Hs k, Hs (k + 1)⟩
  | i + 1, k, h => by
    by_cases hk : k = i
    · subst hk; simp [recsOf]
    · have : i + 1 - 1 - k = (i - 1 - k) + 1 := by omega
      rw [this, recsOf, List.getElem?_cons_succ]
      exact recsOf_get Hs T i k (by omega)

theorem opsD_trace {cf : List (Nat × Nat)} {K : Env → AHeap → Prop} : ∀ (l : List AOper) (rs : List Value) (e : Env) (H : AHeap) (tr : List Rec), opsD P w0 cf l rs e H tr K →
    ∃ V Hs T Es, Hs 0 = H ∧ Es 0 = e ∧ Trace P w0 l rs V Hs T Es ∧ condsD cf (recsOf Hs T l.length ++ tr) ∧ K (Es l.length) (Hs l.length)
  | [], rs, e, H, tr, h => ⟨fun _ => undef, fun _ => H, fun _ => none, fun _ => e, rfl, rfl, ⟨fun i o h => by simp at h, fun i o h => by simp at h⟩, h.1, h.2⟩
  | o :: l, rs, e, H, tr, h => by
    have next : ∀ (v : Value) (H' : AHeap) (t : Option Nat), Step1 P w0 o rs e H v t H' → opsD P w0 cf l (v :: rs) (e.put o.dst v) H' (⟨t, H, H'⟩ :: tr) K →
        ∃ V Hs T Es, Hs 0 = H ∧ Es 0 = e ∧ Trace P w0 (o :: l) rs V Hs T Es ∧ condsD cf (recsOf Hs T (o :: l).length ++ tr) ∧ K (Es (o :: l).length) (Hs (o :: l).length) := fun v H' t hs hr => by
      obtain ⟨V, Hs, T, Es, h1, h2, ⟨h3, h4⟩, h5, h6⟩ := opsD_trace l _ _ _ _ hr
      refine ⟨fun | 0 => v | i + 1 => V i, fun | 0 => H | i + 1 => Hs i, fun | 0 => t | i + 1 => T i, fun | 0 => e | i + 1 => Es i, rfl, rfl, ⟨fun i o' ho => ?_, fun i o' ho => ?_⟩, ?_, h6⟩
      · cases i with
        | zero =>
          simp at ho; subst ho
          rw [← h1] at hs
          exact hs
        | succ i =>
          have := h3 i o' (by simpa using ho)
          rw [revs_shift]
          simpa [List.append_assoc] using this
      · cases i with
        | zero => simp at ho; subst ho; exact h2
        | succ i => exact h4 i o' (by simpa using ho)
      · rw [List.length_cons, recsOf_shift, List.append_assoc, List.singleton_append]
        subst h1
        exact h5
    unfold opsD at h
    split at h
    · rename_i hg
      exact next undef H none (.inl ⟨hg, rfl, rfl, rfl⟩) h
    · rename_i hg
      split at h
      · rename_i f xs hop
        split at h
        · rename_i vs hvs
          obtain ⟨v, H', hc, hn, hr⟩ := h
          exact next v H' none (.inr ⟨hg, .inl ⟨f, xs, vs, hop, hvs, hc, hn, rfl⟩⟩) hr
        · exact h.elim
      · rename_i x xs hop
        split at h
        · rename_i t vs ht hvs
          split at h
          · rename_i f fs cs htg
            obtain ⟨hcb, v, H', hc, hn, hr⟩ := h
            exact next v H' none (.inr ⟨hg, .inr (.inl ⟨x, xs, vs, t, f, fs, cs, hop, ht, hvs, htg, hcb, hc, hn, rfl⟩)⟩) hr
          · exact h.elim
        · exact h.elim
      · split at h
        · rename_i v H' hv
          exact next v H' _ (.inr ⟨hg, .inr (.inr ⟨hv, rfl⟩)⟩) h
        · exact h.elim
    · exact h.elim

/-! ### What the compiling says -/
def dsAt (ops : List Oper) (i : Nat) : List (Option Nat) := ((ops.take i).map (·.dst)).reverse
theorem dsAt_get (ops : List Oper) {i : Nat} (hi : i ≤ ops.length) (k : Nat) : (dsAt ops i)[k]? = if k < i then (ops[i - 1 - k]?).map (·.dst) else none := by
  unfold dsAt
  by_cases h : k < i
  · rw [if_pos h, List.getElem?_reverse (by simp; omega)]
    have : ((ops.take i).map (·.dst)).length - 1 - k = i - 1 - k := by simp; omega
    rw [this, List.getElem?_map, List.getElem?_take, if_pos (by omega)]
  · rw [if_neg h]; simp; omega
theorem dsAt_length (ops : List Oper) {i : Nat} (hi : i ≤ ops.length) : (dsAt ops i).length = i := by simp [dsAt]; omega

structure Cmp1 (P : Program) (pv : List Nat) (nt : Nat) (ds : List (Option Nat)) (o : Oper) (p : AOper) : Prop where
  dst : p.dst = pdst pv o.dst
  op : cop P (mopd pv ds (tmpsOf o.op.operands)) o.op = some p.op
  ok : dstOk nt ds o.dst = true
  guard : (o.guard = none ∧ p.guard = none) ∨ ∃ j want, o.guard = some (j, want) ∧ gOk ds j = true ∧ p.guard = some (ds.length - 1 - j, want)

theorem cops1_get : ∀ (l : List Oper) (ds : List (Option Nat)) (l' : List AOper), cops1 P pv nt ds l = some l' → l'.length = l.length ∧ ∀ (i : Nat) o, l[i]? = some o → ∃ p, l'[i]? = some p ∧ Cmp1 P pv nt (dsAt l i ++ ds) o p
  | [], ds, l', h => by
    simp only [cops1, Option.some.injEq] at h; subst h
    exact ⟨rfl, fun i o h => by simp at h⟩
  | o :: l, ds, l', h => by
    simp only [cops1] at h
    split at h
    case h_2 => cases h
    rename_i q r hq hr
    obtain ⟨h1, h2⟩ := cops1_get l (o.dst :: ds) r hr
    split at h
    case isFalse => cases h
    rename_i hd
    have key : ∃ p, l' = p :: r ∧ Cmp1 P pv nt ds o p := by
      split at h
      · rename_i hg
        cases h
        exact ⟨_, rfl, rfl, hq, hd, .inl ⟨hg, rfl⟩⟩
      · rename_i j want hg
        split at h
        · rename_i hgo
          cases h
          exact ⟨_, rfl, rfl, hq, hd, .inr ⟨j, want, hg, hgo, rfl⟩⟩
        · cases h
    obtain ⟨p, rfl, hp⟩ := key
    refine ⟨by simp [h1], fun i o' ho => ?_⟩
    cases i with
    | zero =>
      simp at ho; subst ho
      exact ⟨p, rfl, by simpa [dsAt] using hp⟩
    | succ i =>
      obtain ⟨p', hp1, hp2⟩ := h2 i o' (by simpa using ho)
      refine ⟨p', by simpa using hp1, ?_⟩
      have : dsAt (o :: l) (i + 1) ++ ds = dsAt l i ++ o.dst :: ds := by simp [dsAt]
      rw [this]; exact hp2

/-! ### The bits -/
theorem testBit_two_pow' {i j : Nat} : (2 ^ i).testBit j = decide (i = j) := Nat.testBit_two_pow ..
theorem maskOf_bit {acc : List Nat} {o : Oper} {b : Nat} (h : (maskOf acc o).testBit b = true) : ∃ j ∈ depsOf o, j = b ∨ (acc.getD j 0).testBit b = true := by
  unfold maskOf at h
  have key : ∀ (l : List Nat) (s : Nat), (l.foldl (fun s j => s ||| 2 ^ j ||| acc.getD j 0) s).testBit b = true → s.testBit b = true ∨ ∃ j ∈ l, j = b ∨ (acc.getD j 0).testBit b = true := by
    intro l
    induction l with
    | nil => intro s h; exact .inl h
    | cons x l ih =>
      intro s h
      rw [List.foldl_cons] at h
      rcases ih _ h with h | ⟨j, hj, hb⟩
      · rw [Nat.testBit_or, Nat.testBit_or, testBit_two_pow'] at h
        simp only [Bool.or_eq_true, decide_eq_true_eq] at h
        rcases h with (h | h) | h
        · exact .inl h
        · exact .inr ⟨x, by simp, .inl h⟩
        · exact .inr ⟨x, by simp, .inr h⟩
      · exact .inr ⟨j, by simp [hj], hb⟩
  rcases key _ _ h with h | h
  · simp at h
  · exact h

theorem masks_get : ∀ (l : List Oper) (acc : List Nat), ∃ m, masks acc l = acc ++ m ∧ m.length = l.length ∧ ∀ (i : Nat) o, l[i]? = some o → m[i]? = some (maskOf ((acc ++ m).take (acc.length + i)) o)
  | [], acc => ⟨[], by simp [masks], rfl, fun i o h => by simp at h⟩
  | o :: l, acc => by
    obtain ⟨m, h1, h2, h3⟩ := masks_get l (acc ++ [maskOf acc o])
    refine ⟨maskOf acc o :: m, by simp [masks, h1], by simp [h2], fun i o' ho => ?_⟩
    cases i with
    | zero => simp at ho; subst ho; simp
    | succ i =>
      have := h3 i o' (by simpa using ho)
      simp only [List.getElem?_cons_succ, this]
      congr 2
      simp only [List.append_assoc, List.singleton_append, List.length_append, List.length_singleton]
      congr 1
      omega

/-- What is listed closed under what its operations are behind. -/
theorem closed_bit {ops : List Oper} {S : Nat → Prop} (hdep : ∀ (i : Nat) o, ops[i]? = some o → ∀ j ∈ depsOf o, j < i) (hcl : ∀ (i : Nat) o, ops[i]? = some o → S i → ∀ j ∈ depsOf o, S j) :
    ∀ (i : Nat) o, ops[i]? = some o → (∀ j ∈ depsOf o, S j) → ∀ b, ((masks [] ops).getD i 0).testBit b = true → S b := by
  obtain ⟨m, h1, h2, h3⟩ := masks_get ops []
  simp only [List.nil_append] at h1 h3
  rw [h1]
  intro i
  induction i using Nat.strongRecOn with
  | ind i ih =>
    intro o ho hd b hb
    have hm := h3 i o ho
    simp only [List.length_nil, Nat.zero_add] at hm
    rw [List.getD_eq_getElem?_getD, hm] at hb
    simp only [Option.getD_some] at hb
    obtain ⟨j, hj, hb⟩ := maskOf_bit hb
    have hji := hdep i o ho j hj
    rcases hb with rfl | hb
    · exact hd _ hj
    · have hjl : j < ops.length := by have := (List.getElem?_eq_some_iff.1 ho).1; omega
      have hoj : ops[j]? = some ops[j] := List.getElem?_eq_getElem hjl
      refine ih j hji _ hoj (hcl j _ hoj (hd j hj)) b ?_
      rw [List.getD_eq_getElem?_getD] at hb ⊢
      rwa [List.getElem?_take, if_pos hji] at hb

end Go.AB
