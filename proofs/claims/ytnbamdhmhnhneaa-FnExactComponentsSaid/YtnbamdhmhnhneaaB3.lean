/- Own framework, part 3: what a new block, a draw, a store and an append do to the relation of the two heaps. -/
import Derived.Test.YtnbamdhmhnhneaaB2
set_option linter.unusedVariables false
set_option linter.unusedSimpArgs false
namespace Go.AB
open Go.RowKit
variable {P : Program} {w0 w w' : World} {ι ι' : Inj} {H H' : AHeap}

theorem ObjRel.lt {i : BI} : ∀ {o : AObj}, o.own = true → ObjRel P w0 ι i w o → i.cb < w.heap.size ∧ w0.heap.size ≤ i.cb
  | .cells vs ty, _, ⟨hb, _, _, cs, fr, hh, _⟩ => ⟨(Array.getElem?_eq_some_iff.1 hh).1, hb⟩
  | .map es, _, ⟨hb, e, c, hh, _⟩ => ⟨(Array.getElem?_eq_some_iff.1 hh).1, hb⟩
  | .iter s p, _, ⟨hb, _, hh⟩ => ⟨(Array.getElem?_eq_some_iff.1 hh).1, hb⟩
  | .ro _, h, _ => by simp [AObj.own] at h
  | .dead, h, _ => by simp [AObj.own] at h

theorem ObjRel.mono {i : BI} (hi : ι.le ι') : ∀ {o : AObj}, (o.own = true → w'.heap[i.cb]? = w.heap[i.cb]?) → ObjRel P w0 ι i w o → ObjRel P w0 ι' i w' o
  | .cells vs ty, hw, ⟨hb, hr, he, cs, fr, hh, hu, hs, hl, hv⟩ => ⟨hb, hr, he, cs, fr, (hw rfl).trans hh, hu, hs, hl, hv.mono hi⟩
  | .map es, hw, ⟨hb, e, c, hh, h1, h2⟩ => ⟨hb, e, c, (hw rfl).trans hh, h1.mono hi, h2.mono hi⟩
  | .iter s p, hw, ⟨hb, hd, hh⟩ => ⟨hb, hd, (hw rfl).trans hh⟩
  | .ro vs, _, ⟨hb, hr, hv⟩ => ⟨hb, hr, fun j x hx => let ⟨o, y, hy, r⟩ := hv j x hx; ⟨o, y, hy, r.mono hi⟩⟩
  | .dead, _, _ => trivial

def Inj.put (ι : Inj) (b : Nat) (i : BI) : Inj := fun c => if c = b then some i else ι c
theorem Inj.put_self (ι : Inj) (b : Nat) (i : BI) : (ι.put b i) b = some i := by simp [Inj.put]
theorem Inj.put_ne (ι : Inj) {b c : Nat} (i : BI) (h : c ≠ b) : (ι.put b i) c = ι c := by simp [Inj.put, h]

theorem RelH.none_n (h : RelH P w0 ι H w) : ι H.n = none := by
  cases hh : ι H.n with
  | none => rfl
  | some i => have := h.dom _ _ hh; omega
theorem RelH.le_put (h : RelH P w0 ι H w) (i : BI) : ι.le (ι.put H.n i) := fun b j hb => by
  have : b ≠ H.n := Nat.ne_of_lt (h.dom b j hb)
  rw [Inj.put_ne ι i this]; exact hb

/-- A world that differs in its draws alone. -/
theorem RelH.same (h : RelH P w0 ι H w) (hb : Below w0.heap.size w0 w') (hh : w'.heap = w.heap) : RelH P w0 ι H w' :=
  ⟨hb, h.dom, fun b i hi => (h.obj b i hi).mono (Inj.le_refl _) (fun _ => by rw [hh]), h.inj⟩
theorem RelH.drew (h : RelH P w0 ι H w) : RelH P w0 ι H w.drew := h.same h.old.drew rfl
theorem Frame.drew (ι : Inj) (H : AHeap) (w : World) : Frame ι H w ι H w.drew :=
  ⟨Inj.le_refl _, Nat.le_refl _, fun _ _ h => h, Nat.le_refl _, fun _ _ _ => rfl, fun b i h h' => by rw [h] at h'; cases h'⟩

/-- A new block. -/
theorem RelH.alloc (h : RelH P w0 ι H w) {o : AObj} {O : Obj} {i : BI} (hi : i.cb = w.heap.size) (ho : ObjRel P w0 (ι.put H.n i) i (w.alloc O) o) :
    RelH P w0 (ι.put H.n i) (H.alloc o) (w.alloc O) where
  old := h.old.alloc h.old.size O
  dom := fun b j hj => by
    by_cases hb : b = H.n
    · subst hb; simp
    · rw [Inj.put_ne ι i hb] at hj; have := h.dom b j hj; simp; omega
  obj := fun b j hj => by
    by_cases hb : b = H.n
    · subst hb
      rw [Inj.put_self] at hj; cases hj
      rw [AHeap.alloc_self]; exact ho
    · rw [Inj.put_ne ι i hb] at hj
      rw [AHeap.alloc_ne H o hb]
      exact (h.obj b j hj).mono (h.le_put i) (fun ho => Below.heap_alloc w O _ ((h.obj b j hj).lt ho).1)
  inj := fun b b' j j' hj hj' h1 h2 he => by
    by_cases hb : b = H.n
    · by_cases hb' : b' = H.n
      · rw [hb, hb']
      · subst hb
        rw [Inj.put_self] at hj; cases hj
        rw [Inj.put_ne ι i hb'] at hj'
        rw [AHeap.alloc_ne H o hb'] at h2
        have := ((h.obj b' j' hj').lt h2).1
        omega
    · rw [Inj.put_ne ι i hb] at hj
      rw [AHeap.alloc_ne H o hb] at h1
      by_cases hb' : b' = H.n
      · subst hb'
        rw [Inj.put_self] at hj'; cases hj'
        have := ((h.obj b j hj).lt h1).1
        omega
      · rw [Inj.put_ne ι i hb'] at hj'
        rw [AHeap.alloc_ne H o hb'] at h2
        exact h.inj b b' j j' hj hj' h1 h2 he

theorem Frame.alloc (h : RelH P w0 ι H w) (o : AObj) (O : Obj) {i : BI} (hi : i.cb = w.heap.size) : Frame ι H w (ι.put H.n i) (H.alloc o) (w.alloc O) where
  le := h.le_put i
  grow := by simp
  alive := fun b hb hob => by rwa [AHeap.alloc_ne H o (Nat.ne_of_lt hb)] at hob
  size := by show w.heap.size ≤ (w.heap.push O).size; simp
  keep := fun cb hcb _ => Below.heap_alloc w O cb hcb
  new := fun b j hj hj' => by
    by_cases hb : b = H.n
    · subst hb
      rw [Inj.put_self] at hj'; cases hj'
      exact ⟨Nat.le_refl _, fun _ => .inl (by omega)⟩
    · rw [Inj.put_ne ι i hb, hj] at hj'; cases hj'

theorem Frame.trans {ι'' : Inj} {H'' : AHeap} {w'' : World} (hR : RelH P w0 ι H w) (hR' : RelH P w0 ι' H' w')
    (h : Frame ι H w ι' H' w') (k : Frame ι' H' w' ι'' H'' w'') : Frame ι H w ι'' H'' w'' where
  le := Inj.le_trans h.le k.le
  grow := Nat.le_trans h.grow k.grow
  alive := fun b hb ho => h.alive b hb (k.alive b (Nat.lt_of_lt_of_le hb h.grow) ho)
  size := Nat.le_trans h.size k.size
  keep := fun cb hcb hn => by
    rw [k.keep cb (Nat.lt_of_lt_of_le hcb h.size) ?_]
    · exact h.keep cb hcb hn
    · intro b i hi ho he
      cases hb : ι b with
      | some j =>
        have hj := h.le b j hb
        rw [hi] at hj; cases hj
        exact hn b i hb (h.alive b (hR.dom b i hb) ho) he
      | none =>
        rcases (h.new b i hb hi).2 ho with h1 | ⟨c, j, hc, hoc, he'⟩
        · omega
        · exact hn c j hc hoc (by omega)
  new := fun b i hb hi => by
    cases hb' : ι' b with
    | none =>
      obtain ⟨h1, h2⟩ := k.new b i hb' hi
      refine ⟨Nat.le_trans h.grow h1, fun ho => ?_⟩
      rcases h2 ho with h3 | ⟨c, j, hc, hoc, he⟩
      · exact .inl (Nat.le_trans h.size h3)
      · cases hcι : ι c with
        | some j' =>
          have hj := h.le c j' hcι
          rw [hc] at hj; cases hj
          exact .inr ⟨c, j, hcι, h.alive c (hR.dom c j hcι) hoc, he⟩
        | none =>
          rcases (h.new c j hcι hc).2 hoc with h4 | ⟨d, jd, hd, hod, hed⟩
          · exact .inl (by omega)
          · exact .inr ⟨d, jd, hd, hod, by omega⟩
    | some i' =>
      have := k.le b i' hb'
      rw [hi] at this; cases this
      obtain ⟨h1, h2⟩ := h.new b i hb hb'
      exact ⟨h1, fun ho => h2 (k.alive b (hR'.dom b i hb') ho)⟩

/-! ### Stores -/
def putCells (cs : Array Value) : Nat → List Value → Array Value
  | _, [] => cs
  | o, v :: r => putCells (cs.setIfInBounds o v) (o + 1) r
theorem putCells_size : ∀ (vs : List Value) (cs : Array Value) (o : Nat), (putCells cs o vs).size = cs.size
  | [], _, _ => rfl
  | v :: r, cs, o => by rw [putCells, putCells_size r]; simp
theorem putCells_get : ∀ (vs : List Value) (cs : Array Value) (o j : Nat), o + vs.length ≤ cs.size → (putCells cs o vs)[j]? = if o ≤ j ∧ j < o + vs.length then vs[j - o]? else cs[j]?
  | [], cs, o, j, _ => by rw [putCells, if_neg (by simp only [List.length_nil]; omega)]
  | v :: r, cs, o, j, h => by
    simp only [List.length_cons] at h
    rw [putCells, putCells_get r _ _ _ (by rw [Array.size_setIfInBounds]; omega)]
    by_cases h1 : o + 1 ≤ j ∧ j < o + 1 + r.length
    · rw [if_pos h1, if_pos (by simp only [List.length_cons]; omega)]
      obtain ⟨m, rfl⟩ : ∃ m, j = o + 1 + m := ⟨j - (o + 1), by omega⟩
      have e1 : o + 1 + m - (o + 1) = m := by omega
      have e2 : o + 1 + m - o = m + 1 := by omega
      rw [e1, e2]; simp
    · rw [if_neg h1]
      by_cases h2 : j = o
      · subst h2
        rw [if_pos (by simp only [List.length_cons]; omega)]
        rw [Array.getElem?_setIfInBounds_self_of_lt (by omega)]
        simp
      · rw [if_neg (by simp only [List.length_cons]; omega)]
        rw [Array.getElem?_setIfInBounds_ne (by omega)]
theorem setCells_heap (b : Nat) (ty : TypeId) (fr : Nat × Nat) : ∀ (vs : List Value) (o : Nat) (w : World) (cs : Array Value), w.heap[b]? = some (.cells cs ty fr) → (w.setCells b o vs).heap[b]? = some (.cells (putCells cs o vs) ty fr)
  | [], o, w, cs, h => h
  | v :: r, o, w, cs, h => by
    rw [World.setCells, putCells]
    refine setCells_heap b ty fr r (o + 1) _ _ ?_
    simp only [World.setCell, Array.getElem?_modify, if_true, h, Option.map_some]
    rfl
theorem setCells_other (b c : Nat) (hc : c ≠ b) : ∀ (vs : List Value) (o : Nat) (w : World), (w.setCells b o vs).heap[c]? = w.heap[c]?
  | [], o, w => rfl
  | v :: r, o, w => by
    rw [World.setCells, setCells_other b c hc r]
    exact Below.heap_setCell w _ v c hc
theorem setCells_size (b : Nat) : ∀ (vs : List Value) (o : Nat) (w : World), (w.setCells b o vs).heap.size = w.heap.size
  | [], o, w => rfl
  | v :: r, o, w => by rw [World.setCells, setCells_size b r]; simp [World.setCell]
theorem setCells_below {B b : Nat} (hB : B ≤ b) : ∀ (vs : List Value) (o : Nat) (w0 w : World), Below B w0 w → Below B w0 (w.setCells b o vs)
  | [], o, w0, w, h => h
  | v :: r, o, w0, w, h => by
    rw [World.setCells]
    exact setCells_below hB r _ _ _ (h.setCell (p := ⟨b, o, none⟩) hB v)
theorem cell_of_block {b o : Nat} {cs : Array Value} {ty : TypeId} {fr : Nat × Nat} (h : w.heap[b]? = some (.cells cs ty fr)) : w.cell? ⟨b, o, none⟩ = cs[o]? := by simp [World.cell?, h]
theorem frozen_of_block {b o : Nat} {cs : Array Value} {ty : TypeId} {fr : Nat × Nat} (h : w.heap[b]? = some (.cells cs ty fr)) (hu : Unshut fr cs.size) (ho : o < cs.size) : w.frozen? ⟨b, o, none⟩ = false := by
  have := hu o ho
  obtain ⟨lo, hi⟩ := fr
  simp only [World.frozen?, h]
  simp only [Bool.and_eq_false_iff, decide_eq_false_iff_not]
  simp only at this
  omega

/-- Cells of an object's own written. -/
theorem RelH.write (h : RelH P w0 ι H w) {b : Nat} {i : BI} {vs : List Value} {ty : TypeId} (hb : ι b = some i) (hg : H.get b = .cells vs ty) (off : Nat) {xs ys : List Value} (hr : RelL ι xs ys) (h1 : ∀ x ∈ xs, x.oneCell' = true) (hl : off + xs.length ≤ vs.length) :
    RelH P w0 ι (H.set b (.cells (splice vs off xs) ty)) (w.setCells i.cb (off + i.d) ys) ∧ Frame ι H w ι (H.set b (.cells (splice vs off xs) ty)) (w.setCells i.cb (off + i.d) ys) := by
  have hob := h.obj b i hb
  rw [hg] at hob
  obtain ⟨hbase, hro, hesz, cs, fr, hh, hu, hs, hld, hv⟩ := hob
  have hlen := hr.1
  have hfit : off + i.d + ys.length ≤ cs.size := by omega
  have hne : H.get b ≠ .dead := by rw [hg]; simp
  have hnew := setCells_heap i.cb ty fr ys (off + i.d) w cs hh
  refine ⟨⟨setCells_below hbase _ _ _ _ h.old, fun c j hc => by simpa using h.dom c j hc, fun c j hc => ?_, fun c c' j j' hc hc' o1 o2 he => ?_⟩, Inj.le_refl _, Nat.le_refl _, fun c _ hc => (by
      by_cases hcb : c = b
      · subst hcb; rw [hg]; rfl
      · rwa [AHeap.set_ne H _ hcb] at hc), by rw [setCells_size]; exact Nat.le_refl _, fun cb hcb hk => ?_, fun c j hc hc' => by rw [hc] at hc'; cases hc'⟩
  · by_cases hcb : c = b
    · subst hcb
      rw [hb] at hc; cases hc
      rw [AHeap.set_self hne]
      refine ⟨hbase, hro, hesz, _, fr, hnew, by rw [putCells_size]; exact hu, by rw [putCells_size]; exact hs, ?_, fun j x hx => ?_⟩
      · rw [putCells_size]; simp only [splice, List.length_append, List.length_take, List.length_drop]; omega
      · rw [putCells_get _ _ _ _ hfit]
        unfold splice at hx
        by_cases h2 : off ≤ j ∧ j < off + xs.length
        · rw [if_pos (by omega)]
          rw [List.append_assoc, List.getElem?_append_right (by simp; omega), List.getElem?_append_left (by simp; omega)] at hx
          have hmin : min off vs.length = off := by omega
          simp only [List.length_take, hmin] at hx
          obtain ⟨y, hy, hxy⟩ := hr.get hx
          refine ⟨h1 x (List.mem_of_getElem? hx), y, ?_, hxy⟩
          have e : i.d + j - (off + i.d) = j - off := by omega
          rw [e]; exact hy
        · rw [if_neg (by omega)]
          have hx' : vs[j]? = some x := by
            by_cases h3 : j < off
            · rw [List.append_assoc, List.getElem?_append_left (by simp; omega), List.getElem?_take_of_lt h3] at hx
              exact hx
            · rw [List.getElem?_append_right (by simp; omega)] at hx
              simp only [List.length_append, List.length_take, List.getElem?_drop] at hx
              have e : off + xs.length + (j - (min off vs.length + xs.length)) = j := by omega
              rw [e] at hx; exact hx
          exact hv j x hx'
    · rw [AHeap.set_ne H _ hcb]
      refine (h.obj c j hc).mono (Inj.le_refl _) (fun ho => setCells_other i.cb _ (fun e => ?_) _ _ _)
      exact hcb (h.inj c b j i hc hb ho (by rw [hg]; rfl) e)
  · have key : ∀ c, ((H.set b (.cells (splice vs off xs) ty)).get c).own = true → (H.get c).own = true := fun c hc => by
      by_cases hcb : c = b
      · subst hcb; rw [hg]; rfl
      · rwa [AHeap.set_ne H _ hcb] at hc
    exact h.inj c c' j j' hc hc' (key c o1) (key c' o2) he
  · exact setCells_other i.cb cb (fun e => hk b i hb (by rw [hg]; rfl) e.symm) _ _ _

/-- An object is given up. -/
theorem RelH.kill (h : RelH P w0 ι H w) (b : Nat) : RelH P w0 ι (H.set b .dead) w where
  old := h.old
  dom := fun c j hc => by simpa using h.dom c j hc
  obj := fun c j hc => by
    by_cases hcb : c = b
    · subst hcb
      have : (H.set c .dead).get c = .dead := by
        by_cases hd : H.get c = .dead
        · simp [AHeap.set, hd]
        · exact AHeap.set_self hd
      rw [this]; trivial
    · rw [AHeap.set_ne H _ hcb]; exact h.obj c j hc
  inj := fun c c' j j' hc hc' o1 o2 he => by
    have key : ∀ c, ((H.set b .dead).get c).own = true → (H.get c).own = true := fun c hc => by
      by_cases hcb : c = b
      · subst hcb
        by_cases hd : H.get c = .dead
        · simp [AHeap.set, hd, AObj.own] at hc
        · rw [AHeap.set_self hd] at hc; simp [AObj.own] at hc
      · rwa [AHeap.set_ne H _ hcb] at hc
    exact h.inj c c' j j' hc hc' (key c o1) (key c' o2) he
theorem AHeap.set_dead (H : AHeap) (b : Nat) : (H.set b .dead).get b = .dead := by
  by_cases hd : H.get b = .dead
  · simp [AHeap.set, hd]
  · exact AHeap.set_self hd
end Go.AB
