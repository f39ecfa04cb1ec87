/- Own framework, part 19: slices of anything; an append to a slice that a variable's cell holds. -/
import Derived.Test.YtnbamdhmhnhneaaB18
set_option linter.unusedVariables false
set_option linter.unusedSimpArgs false
namespace Go.AB
structure Enc (α : Type) (sz : Nat) where
  cs : α → List Value
  len : ∀ a, (cs a).length = sz
variable {α : Type} {sz : Nat} {E : Enc α sz} {xs ys : List α} {x : α} {j k b : Nat} {H G : AHeap} {s t : SV} {ty : TypeId} {v : Value}
def Enc.all (E : Enc α sz) (xs : List α) : List Value := xs.flatMap E.cs
theorem Enc.all_nil : E.all [] = [] := rfl
theorem Enc.all_cons : E.all (x :: xs) = E.cs x ++ E.all xs := by simp [Enc.all]
theorem Enc.all_one : E.all [x] = E.cs x := by simp [Enc.all]
theorem Enc.all_app : E.all (xs ++ ys) = E.all xs ++ E.all ys := by simp [Enc.all]
theorem Enc.all_len : (E.all xs).length = xs.length * sz := by
  induction xs with
  | nil => simp [Enc.all]
  | cons x xs ih => rw [Enc.all_cons, List.length_append, E.len, ih, List.length_cons, Nat.add_mul, Nat.one_mul, Nat.add_comm]
theorem Enc.all_drop : ∀ (xs : List α) (j : Nat), (E.all xs).drop (j * sz) = E.all (xs.drop j)
  | xs, 0 => by simp
  | [], j + 1 => by simp [Enc.all]
  | x :: xs, j + 1 => by
    rw [Enc.all_cons, Nat.add_mul, Nat.one_mul, Nat.add_comm, ← List.drop_drop, List.drop_left' (E.len x), Enc.all_drop xs j, List.drop_succ_cons]
theorem Enc.all_take : ∀ (xs : List α) (j : Nat), (E.all xs).take (j * sz) = E.all (xs.take j)
  | xs, 0 => by simp [Enc.all]
  | [], j + 1 => by simp [Enc.all]
  | x :: xs, j + 1 => by
    rw [Enc.all_cons, List.take_succ_cons, Enc.all_cons, Nat.add_mul, Nat.one_mul, Nat.add_comm, List.take_append, E.len, List.take_of_length_le (by rw [E.len]; omega), Nat.add_sub_cancel_left, Enc.all_take xs j]
theorem drop_cons_of (hx : xs[j]? = some x) : xs.drop j = x :: xs.drop (j + 1) := by
  obtain ⟨h, rfl⟩ := List.getElem?_eq_some_iff.1 hx
  exact List.drop_eq_getElem_cons h
theorem Enc.all_at (hx : xs[j]? = some x) : ((E.all xs).drop (j * sz)).take sz = E.cs x := by
  rw [Enc.all_drop, drop_cons_of hx, Enc.all_cons, List.take_left' (E.len x)]
theorem Enc.all_get (hx : xs[j]? = some x) (hv : (E.cs x)[k]? = some v) : (E.all xs)[j * sz + k]? = some v := by
  have hk : k < sz := by rw [← E.len x]; exact (List.getElem?_eq_some_iff.1 hv).1
  have : (E.all xs)[j * sz + k]? = ((E.all xs).drop (j * sz))[k]? := by rw [List.getElem?_drop]
  rw [this, Enc.all_drop, drop_cons_of hx, Enc.all_cons, List.getElem?_append_left (by rw [E.len]; exact hk), hv]
theorem Enc.all_set (hj : j < xs.length) : splice (E.all xs) (j * sz) (E.cs x) = E.all (xs.set j x) := by
  unfold splice
  rw [E.len, show j * sz + sz = (j + 1) * sz by rw [Nat.add_mul, Nat.one_mul], Enc.all_take, Enc.all_drop, List.set_eq_take_append_cons_drop, if_pos hj, Enc.all_app, Enc.all_cons, List.append_assoc]

theorem enc_len (h : Arr H s ty sz (E.all xs)) (h0 : 0 < sz) : s.len = xs.length := by
  have := h.len
  rw [Enc.all_len] at this
  exact (Nat.eq_of_mul_eq_mul_right h0 this).symm
theorem enc_fits (hj : j < xs.length) : j * sz + sz ≤ (E.all xs).length := by
  rw [Enc.all_len, show j * sz + sz = (j + 1) * sz by rw [Nat.add_mul, Nat.one_mul]]
  exact Nat.mul_le_mul_right _ hj
theorem ldnE (h : Arr H s ty sz (E.all xs)) (h0 : 0 < sz) (hx : xs[j]? = some x) : ldnO sz H (some (s.p (j * sz))) = some (.agg (E.cs x).toArray, H) := by
  rw [h.ldn (enc_fits (List.getElem?_eq_some_iff.1 hx).1) h0, Enc.all_at hx]
theorem ldE (h : Arr H s ty sz (E.all xs)) (hx : xs[j]? = some x) (hv : (E.cs x)[k]? = some v) : ldO H (some (s.p (j * sz + k))) = some (v, H) := by
  have := Enc.all_get hx hv
  rw [h.ld (List.getElem?_eq_some_iff.1 this).1, List.getD_eq_getElem?_getD, this]; rfl
theorem ldE0 (h : Arr H s ty sz (E.all xs)) (hx : xs[j]? = some x) (hv : (E.cs x)[0]? = some v) : ldO H (some (s.p (j * sz))) = some (v, H) := ldE (k := 0) h hx hv
theorem stE (h : Own H s ty sz (E.all xs)) (h0 : 0 < sz) (hj : j < xs.length) : stO sz H (some (s.p (j * sz))) (some (.agg (E.cs x).toArray)) = some (.tuple #[], s.put H (j * sz) (E.cs x)) := by
  have := h.st (n := sz) (j := j * sz) (v := .agg (E.cs x).toArray) rfl (by rw [cellsL_agg, E.len]) h0 (enc_fits hj)
  rw [cellsL_agg] at this; exact this
theorem putE (h : Own H s ty sz (E.all xs)) (hj : j < xs.length) : Own (s.put H (j * sz) (E.cs x)) s ty sz (E.all (xs.set j x)) := by
  have := h.put (j := j * sz) (vs := E.cs x) (by rw [E.len]; exact enc_fits hj)
  rw [Enc.all_set hj] at this; exact this
theorem seg_enc : seg (E.cs x) 0 sz = some (E.cs x) := seg_all (by rw [E.len]; omega)
theorem stC_enc {us : List Value} (h : ¬ (us.length < sz ∨ sz < us.length)) : stC sz H b (.cells us ty) 0 (.agg (E.cs x).toArray) = some (.tuple #[], H.put b 0 (E.cs x)) := stC_agg (by rw [E.len]; omega) h
theorem splice_enc {us : List Value} (h : ¬ (us.length < sz ∨ sz < us.length)) : splice us 0 (E.cs x) = E.cs x := splice_all (by rw [E.len]; omega)
/-- Slices in a slice. -/
def ESV : Enc SV 1 := ⟨fun s => [s.v], fun _ => rfl⟩
theorem ESV_len {ss : List SV} (h : Arr H s ty 1 (ESV.all ss)) : s.len = ss.length := enc_len h (by omega)
theorem ld_sv {ss : List SV} {a : SV} (h : Arr H s ty 1 (ESV.all ss)) (hx : ss[j]? = some a) : ldO H (some (s.p j)) = some (a.v, H) := by
  have := ldE0 (E := ESV) (v := a.v) h hx rfl
  rwa [Nat.mul_one] at this
theorem st_sv {ss : List SV} {a : SV} (h : Own H s ty 1 (ESV.all ss)) (hj : j < ss.length) : stO 1 H (some (s.p j)) (some a.v) = some (.tuple #[], s.put H j [a.v]) := by
  have := h.st (n := 1) (j := j) (v := a.v) isTup_s (by rw [cellsL_s]; rfl) (by omega) (by rw [Enc.all_len]; omega)
  rw [cellsL_s] at this; exact this
theorem put_sv {ss : List SV} {a : SV} (h : Own H s ty 1 (ESV.all ss)) (hj : j < ss.length) : Own (s.put H j [a.v]) s ty 1 (ESV.all (ss.set j a)) := by
  have := putE (E := ESV) (x := a) h hj
  rwa [Nat.mul_one] at this

/-- What 'x.f = append(x.f, v)' leaves, where the cell j of b holds the slice s. -/
def AHeap.upd (H : AHeap) (b j : Nat) (s : SV) (ty : TypeId) (cs ds : List Value) : AHeap := (H.app1 s ty cs ds).put b j [(SV.at (H.n + 1) 0 (s.len + 1)).v]
variable {off : Nat} {cs ds us : List Value} {ty' : TypeId} {sz' : Nat}
theorem upd_n : (H.upd b j s ty cs ds).n = H.n + 2 := by rw [AHeap.upd, AHeap.put_n, app1_n]
theorem upd_self (hb : H.get b = .cells us ty') (ho : s.off b) : (H.upd b j s ty cs ds).get b = .cells (splice us j [(SV.at (H.n + 1) 0 (s.len + 1)).v]) ty' := by
  have hl := AHeap.lt_of hb (by simp)
  rw [AHeap.upd, put_at, app1_get hl ho, hb]; rfl
theorem upd_ne (hk : k < H.n) (hkb : k ≠ b) (ho : s.off k) : (H.upd b j s ty cs ds).get k = H.get k := by
  rw [AHeap.upd, AHeap.put_ne hkb, app1_get hk ho]
theorem upd_own (h : Own H s ty sz cs) (hd : ds.length = sz) (hb : b < H.n) : Own (H.upd b j s ty cs ds) (.at (H.n + 1) 0 (s.len + 1)) ty sz (cs ++ ds) :=
  (app1_own h hd).put' (by simp only [SV.off]; omega)
theorem Own.upd {ds us : List Value} (h : Own H t ty' sz' us) (ha : s.apart t) (hb : t.off b) : Own (H.upd b j s ty cs ds) t ty' sz' us := (h.app1 ha).put' hb
theorem Arr.upd {ds us : List Value} (h : Arr H t ty' sz' us) (ha : s.apart t) (hb : t.off b) : Arr (H.upd b j s ty cs ds) t ty' sz' us := (h.app1 ha).put hb
theorem Ext.upd (h : Ext H G) (hb : H.n ≤ b) (ho : ∀ b, b < H.n → s.off b) : Ext H (G.upd b j s ty cs ds) := (h.app1 ho).put hb
/-- A new slice stands apart from what there was. -/
theorem apart_new {n m : Nat} (h : s.lt n) (hm : n ≤ m) {l o : Nat} : (SV.at m o l).apart s := fun c => by
  by_cases hc : m = c
  · right; exact SV.off_of_lt h (by omega)
  · left; exact hc
theorem Own.cut {sz : Nat} {cs : List Value} (h : Own H s ty sz cs) {l r : Nat} (hl : l ≤ r) (hr : r ≤ s.len) : Own H (s.cut sz l r) ty sz ((cs.drop (l * sz)).take ((r - l) * sz)) := by
  refine ⟨(h.arr.cut hl hr).len, fun b o n hs => ?_⟩
  obtain ⟨pre, post, h1, h2⟩ := (h.arr.cut hl hr).row b o n hs
  refine ⟨pre, post, ?_, h2⟩
  rcases h1 with h1 | h1
  · exact h1
  · cases s with
    | nil => cases hs
    | «at» b' o' n' =>
      cases hs
      obtain ⟨pre', post', k1, k2⟩ := h.row _ _ _ rfl
      rw [k1] at h1; cases h1
theorem Own.cutE {xs : List α} (h : Own H s ty sz (E.all xs)) {l r : Nat} (hl : l ≤ r) (hr : r ≤ s.len) : Own H (s.cut sz l r) ty sz (E.all ((xs.drop l).take (r - l))) := by
  have := h.cut hl hr
  rwa [Enc.all_drop, Enc.all_take] at this
theorem Arr.cutE {xs : List α} (h : Arr H s ty sz (E.all xs)) {l r : Nat} (hl : l ≤ r) (hr : r ≤ s.len) : Arr H (s.cut sz l r) ty sz (E.all ((xs.drop l).take (r - l))) := by
  have := h.cut hl hr
  rwa [Enc.all_drop, Enc.all_take] at this
/-! ### What holds behind a loop -/
variable {P : Program} {w0 : World} {e : Env} {a c : AC} {Q : AX → Env → AHeap → Prop} {id id' : Nat} {M : Env → AHeap → Prop}
def midK (id : Nat) (M : Env → AHeap → Prop) (Q : AX → Env → AHeap → Prop) : AX → Env → AHeap → Prop := fun x e H => match x with
  | .exit i => if i = id then M e H else Q (.exit i) e H
  | .ret => Q .ret e H
  | .normal => False
theorem midK_exit : midK id M Q (.exit id') e H = if id' = id then M e H else Q (.exit id') e H := rfl
theorem midK_ret : midK id M Q .ret e H = Q .ret e H := rfl
theorem CW_mid (M : Env → AHeap → Prop) (h1 : CW P w0 a e H (midK id M Q)) (h2 : ∀ e' H', H.n ≤ H'.n → M e' H' → CW P w0 c e' H' Q) : CW P w0 a e H (blockK id (seqK P w0 c Q)) := by
  refine CW_mono h1 fun x e' H' hn hx => ?_
  cases x with
  | normal => exact hx.elim
  | ret => exact hx
  | exit i =>
    rw [blockK_exit]
    rw [midK_exit] at hx
    split
    · rename_i h; rw [if_pos h] at hx; exact h2 _ _ hn hx
    · rename_i h; rw [if_neg h] at hx; exact hx
end Go.AB
