/- Plain law: a graph out of edges; the edges of one cell. -/
import Derived.Test.YtnbamdhmhnhneaaT5
set_option linter.unusedVariables false
set_option linter.unusedSimpArgs false
namespace Go.AB

def E4.rev (e : E4) : E4 := ⟨e.t, e.f, e.d, e.c⟩
def rowE (es : List E4) (u : Nat) : List E4 := es.filter fun e => e.f == (u : Int)
def rowsE (es : List E4) (v : Nat) : List E4 := (List.range v).flatMap (rowE es)
def gOf (N : Nat) (es : List E4) : GD :=
  ⟨N, (List.range (N + 1)).map (fun v => ((rowsE es v).length : Int)), (rowsE es N).map (·.t), (rowsE es N).map (·.d), (rowsE es N).map (·.c)⟩
theorem rowsE_zero {es : List E4} : rowsE es 0 = [] := rfl
theorem rowsE_succ {es : List E4} {v : Nat} : rowsE es (v + 1) = rowsE es v ++ rowE es v := by
  simp [rowsE, List.range_succ]
theorem mem_rowE {es : List E4} {u : Nat} {e : E4} : e ∈ rowE es u ↔ e ∈ es ∧ e.f = u := by simp [rowE]
theorem mem_rowsE {es : List E4} {v : Nat} {e : E4} : e ∈ rowsE es v ↔ e ∈ es ∧ 0 ≤ e.f ∧ e.f < v := by
  simp only [rowsE, List.mem_flatMap, List.mem_range, mem_rowE]
  constructor
  · rintro ⟨u, hu, he, hf⟩; exact ⟨he, by omega, by omega⟩
  · rintro ⟨he, h0, h1⟩; exact ⟨e.f.toNat, by omega, he, by omega⟩
theorem rowsE_split {es : List E4} {c : Nat} : ∀ {v : Nat}, c < v → ∃ rest, rowsE es v = rowsE es c ++ (rowE es c ++ rest)
  | 0, h => by omega
  | v + 1, h => by
    by_cases hc : c = v
    · subst hc; exact ⟨[], by rw [rowsE_succ, List.append_nil]⟩
    · obtain ⟨rest, hr⟩ := rowsE_split (es := es) (c := c) (v := v) (by omega)
      exact ⟨rest ++ rowE es v, by rw [rowsE_succ, hr]; simp⟩
theorem rowsE_get {es : List E4} {c v j : Nat} (h : c < v) (hj : j < (rowE es c).length) : (rowsE es v)[(rowsE es c).length + j]? = (rowE es c)[j]? := by
  obtain ⟨rest, hr⟩ := rowsE_split (es := es) h
  rw [hr, List.getElem?_append_right (by omega), Nat.add_sub_cancel_left, List.getElem?_append_left hj]
theorem rowsE_mono {es : List E4} {c v : Nat} (h : c ≤ v) : (rowsE es c).length ≤ (rowsE es v).length := by
  rcases Nat.eq_or_lt_of_le h with h | h
  · subst h; exact Nat.le_refl _
  · obtain ⟨rest, hr⟩ := rowsE_split (es := es) h
    rw [hr, List.length_append]; omega
theorem rowsE_find {es : List E4} : ∀ {v k : Nat}, k < (rowsE es v).length → ∃ c, c < v ∧ (rowsE es c).length ≤ k ∧ k < (rowsE es (c + 1)).length ∧ ∃ e, (rowsE es v)[k]? = some e ∧ e.f = c
  | 0, k, h => by simp [rowsE_zero] at h
  | v + 1, k, h => by
    by_cases hk : k < (rowsE es v).length
    · obtain ⟨c, h1, h2, h3, e, h4, h5⟩ := rowsE_find hk
      refine ⟨c, by omega, h2, h3, e, ?_, h5⟩
      rw [rowsE_succ, List.getElem?_append_left hk]; exact h4
    · refine ⟨v, by omega, by omega, h, ?_⟩
      have hk2 : k - (rowsE es v).length < (rowE es v).length := by rw [rowsE_succ] at h; simp at h; omega
      refine ⟨(rowE es v)[k - (rowsE es v).length], ?_, ?_⟩
      · rw [rowsE_succ, List.getElem?_append_right (by omega)]
        exact List.getElem?_eq_getElem hk2
      · exact (mem_rowE.1 (List.getElem_mem hk2)).2
theorem sum_ind (a : Int) : ∀ (N : Nat) (g : Nat → Nat), ((List.range N).map fun u : Nat => (if a = (u : Int) then 1 else 0) + g u).sum = (if 0 ≤ a ∧ a < N then 1 else 0) + ((List.range N).map g).sum
  | 0, g => by
    have : ¬ (0 ≤ a ∧ a < ((0 : Nat) : Int)) := by omega
    rw [if_neg this]; rfl
  | N + 1, g => by
    rw [List.range_succ, List.map_append, List.map_append, List.sum_append, List.sum_append, sum_ind a N g]
    simp only [List.map_cons, List.map_nil, List.sum_cons, List.sum_nil]
    by_cases h1 : a = N
    · subst h1
      rw [if_neg (by omega), if_pos rfl, if_pos (by omega)]; omega
    · rw [if_neg h1]
      by_cases h2 : 0 ≤ a ∧ a < N
      · rw [if_pos h2, if_pos (by omega)]; omega
      · rw [if_neg h2, if_neg (by omega)]; omega
theorem rowsE_len {N : Nat} : ∀ {es : List E4}, (∀ e ∈ es, 0 ≤ e.f ∧ e.f < N) → (rowsE es N).length = es.length
  | [], h => by
    have : ∀ v, rowsE [] v = [] := fun v => by
      induction v with
      | zero => rfl
      | succ v ih => rw [rowsE_succ, ih]; rfl
    rw [this]
  | e :: es, h => by
    have ih := rowsE_len (N := N) (es := es) fun e he => h e (by simp [he])
    have he := h e (by simp)
    have e1 : ∀ es : List E4, (rowsE es N).length = ((List.range N).map fun u => (rowE es u).length).sum := fun es => by
      rw [rowsE, List.length_flatMap]
    rw [e1] at ih ⊢
    have e2 : (fun u : Nat => (rowE (e :: es) u).length) = fun u : Nat => (if e.f = (u : Int) then 1 else 0) + (rowE es u).length := by
      funext u
      simp only [rowE, List.filter_cons, beq_iff_eq]
      split <;> simp <;> omega
    rw [e2, sum_ind, if_pos he, ih, List.length_cons, Nat.add_comm]

theorem getD_map {α : Type} {l : List α} {f : α → Int} {k : Nat} {a : α} (h : l[k]? = some a) : (l.map f).getD k 0 = f a := by simp [List.getD_eq_getElem?_getD, h]
theorem gOf_s {es : List E4} {N c : Nat} (h : c ≤ N) : (gOf N es).s.getD c 0 = (rowsE es c).length := by
  exact getD_map (l := List.range (N + 1)) (f := fun v => ((rowsE es v).length : Int)) (by rw [List.getElem?_range (by omega)])
theorem gOf_edges {es : List E4} {N : Nat} : (gOf N es).Edges (rowsE es N) := by
  refine ⟨by simp [gOf], fun k hk => ?_⟩
  have hk' : k < (rowsE es N).length := by simpa [gOf] using hk
  obtain ⟨c, h1, h2, h3, e, h4, h5⟩ := rowsE_find hk'
  refine ⟨c, by simp only [gOf]; omega, by rw [gOf_s (by omega)]; omega, by rw [gOf_s (by omega)]; omega, ?_⟩
  simp only [gOf]
  rw [getD_map h4, getD_map h4, getD_map h4, h4, ← h5]
theorem gOf_ok {es : List E4} {N : Nat} (ok : EsOk es N) (hN : 1 ≤ N ∧ N ≤ 1600) (hl : es.length ≤ 6400) : (gOf N es).Ok := by
  have hlen := rowsE_len (es := es) (N := N) ok.f
  have hn : (gOf N es).n.toNat = N := by simp [gOf]
  have hm : (gOf N es).s.getD (gOf N es).n.toNat 0 = es.length := by rw [hn, gOf_s (Nat.le_refl _), hlen]
  refine ⟨by simp [gOf]; omega, by simp [gOf], by rw [gOf_s (by omega)]; rfl, by rw [hm]; omega, by rw [hm]; simp [gOf, hlen], by rw [hm]; simp [gOf, hlen], by rw [hm]; simp [gOf, hlen], fun c hc => ?_, fun k hk => ?_⟩
  · have : c < N := by simpa [gOf] using hc
    rw [gOf_s (by omega), gOf_s (by omega)]
    have := rowsE_mono (es := es) (Nat.le_add_right c 1)
    omega
  · rw [hm] at hk
    have hk' : k < (rowsE es N).length := by omega
    have he := List.getElem?_eq_getElem hk'
    have hm := (mem_rowsE.1 (List.getElem_mem hk')).1
    have q1 := ok.t _ hm
    have q2 := ok.d _ hm
    have q3 := ok.c _ hm
    refine ⟨?_, ?_, ?_⟩
    · simp only [gOf]; rw [getD_map he]; exact q1
    · simp only [gOf]; rw [getD_map he]; exact q2
    · simp only [gOf]; rw [getD_map he]; exact q3
/-- The edges of a valid graph are in order. -/
theorem edges_ok {x : GD} {es : List E4} (ok : x.Ok) (h : x.Edges es) : EsOk es x.n.toNat ∧ es.length ≤ 6400 := by
  have key : ∀ e ∈ es, (0 ≤ e.f ∧ e.f < x.n) ∧ (0 ≤ e.t ∧ e.t < x.n) ∧ (0 ≤ e.d ∧ e.d ≤ 3) ∧ (1 ≤ e.c ∧ e.c ≤ 9) := fun e he => by
    obtain ⟨k, hk, rfl⟩ := List.getElem_of_mem he
    have hk' : k < x.t.length := by rw [← h.len]; exact hk
    obtain ⟨c, h1, h2, h3, h4⟩ := h.get k hk'
    rw [List.getElem?_eq_getElem hk] at h4
    have hed := ok.e k (by have := ok.t; omega)
    rw [Option.some.injEq] at h4
    rw [h4]
    exact ⟨⟨by simp, h1⟩, hed.t, hed.d, hed.c⟩
  have hn := ok.n
  refine ⟨⟨fun e he => ?_, fun e he => ?_, fun e he => (key e he).2.2.1, fun e he => (key e he).2.2.2⟩, ?_⟩
  · have := (key e he).1; omega
  · have := (key e he).2.1; omega
  · have := ok.m; have := ok.t; have := h.len; omega
theorem rev_ok {es : List E4} {N : Nat} (ok : EsOk es N) : EsOk (es.map E4.rev) N := by
  refine ⟨fun e he => ?_, fun e he => ?_, fun e he => ?_, fun e he => ?_⟩ <;>
    (obtain ⟨e', he', rfl⟩ := List.mem_map.1 he)
  · exact ok.t e' he'
  · exact ok.f e' he'
  · exact ok.d e' he'
  · exact ok.c e' he'
/-- A graph has its edges in one way alone. -/
theorem Edges.uniq {x : GD} {es es' : List E4} (ok : x.Ok) (h : x.Edges es) (h' : x.Edges es') : es = es' := by
  refine List.ext_getElem? fun k => ?_
  by_cases hk : k < x.t.length
  · obtain ⟨c, h1, h2, h3, h4⟩ := h.get k hk
    obtain ⟨c', k1, k2, k3, k4⟩ := h'.get k hk
    have : c = c' := by
      rcases Nat.lt_trichotomy c c' with g | g | g
      · have := ok.up' (c + 1) c' (by omega) (by omega); omega
      · exact g
      · have := ok.up' (c' + 1) c (by omega) (by omega); omega
    rw [h4, k4, this]
  · rw [List.getElem?_eq_none (by rw [h.len]; omega), List.getElem?_eq_none (by rw [h'.len]; omega)]
end Go.AB
