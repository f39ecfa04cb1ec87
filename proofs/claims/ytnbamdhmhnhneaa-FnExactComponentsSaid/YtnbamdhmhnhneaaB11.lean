/- Own framework, part 11: a region whose operations come up in any order. -/
import Derived.Test.YtnbamdhmhnhneaaB10
set_option linter.unusedVariables false
set_option linter.unusedSimpArgs false
namespace Go.AB
open Go.RowKit
variable {P : Program} {w0 w w' ws : World} {ι ι' ι0 : Inj} {H H' H0 : AHeap} {pv : List Nat} {nt : Nat} {e e0 : Env} {a : Act}

theorem aop_mono {q : AOp} {ρ : AOpd → Option Value} {v : Value} (h : aop q ρ H = some (v, H')) : H.n ≤ H'.n := by
  by_cases h0 : cls q = 0
  · rw [(aop_pure h0 h).1]; exact Nat.le_refl _
  by_cases h1 : cls q = 1
  · rw [(aop_read h1 h).1]; exact Nat.le_refl _
  by_cases h2 : cls q = 2
  · obtain ⟨o, _, rfl, _⟩ := aop_new h2 h; simp
  cases q <;> (first | (simp [cls] at h0 h1 h2; done) | skip)
  · simp only [aop] at h
    (repeat' split at h) <;> first | (cases h; done) | (cases h; simp)
  · simp only [aop] at h
    split at h
    · unfold appV at h
      (repeat' split at h) <;> first | (cases h; done) | (cases h; simp)
    · cases h
  · simp [aop] at h
  · simp [aop] at h
  · simp only [aop] at h
    split at h
    · unfold copyV at h
      (repeat' split at h) <;> first | (cases h; done) | (cases h; simp)
    · cases h

theorem RelH.congr (h : RelH P w0 ι H w) (hg : ∀ b i, ι b = some i → H'.get b = H.get b) (hn : ∀ b i, ι b = some i → b < H'.n) : RelH P w0 ι H' w where
  old := h.old
  dom := hn
  obj := fun b i hb => by rw [hg b i hb]; exact h.obj b i hb
  inj := fun b b' i i' hb hb' o1 o2 he => h.inj b b' i i' hb hb' (by rwa [hg b i hb] at o1) (by rwa [hg b' i' hb'] at o2) he

/-- An object that the heap holds already is made in the world. -/
theorem RelH.act (h : RelH P w0 ι H w) {b : Nat} {o : AObj} {O : Obj} {i : BI} (hb0 : ι b = none) (hbn : b < H.n) (hg : H.get b = o) (hi : i.cb = w.heap.size) (ho : ObjRel P w0 (ι.put b i) i (w.alloc O) o) :
    RelH P w0 (ι.put b i) H (w.alloc O) where
  old := h.old.alloc h.old.size O
  dom := fun c j hj => by
    by_cases hb : c = b
    · subst hb; exact hbn
    · rw [Inj.put_ne ι i hb] at hj; exact h.dom c j hj
  obj := fun c j hj => by
    by_cases hb : c = b
    · subst hb
      rw [Inj.put_self] at hj; cases hj
      rw [hg]; exact ho
    · rw [Inj.put_ne ι i hb] at hj
      have hle : ι.le (ι.put b i) := fun d k hd => by
        by_cases hdb : d = b
        · subst hdb; rw [hb0] at hd; cases hd
        · rw [Inj.put_ne ι i hdb]; exact hd
      exact (h.obj c j hj).mono hle (fun ho => Below.heap_alloc w O _ ((h.obj c j hj).lt ho).1)
  inj := fun c c' j j' hj hj' h1 h2 he => by
    by_cases hb : c = b
    · by_cases hb' : c' = b
      · rw [hb, hb']
      · subst hb
        rw [Inj.put_self] at hj; cases hj
        rw [Inj.put_ne ι i hb'] at hj'
        have := ((h.obj c' j' hj').lt h2).1
        omega
    · rw [Inj.put_ne ι i hb] at hj
      by_cases hb' : c' = b
      · subst hb'
        rw [Inj.put_self] at hj'; cases hj'
        have := ((h.obj c j hj).lt h1).1
        omega
      · rw [Inj.put_ne ι i hb'] at hj'
        exact h.inj c c' j j' hj hj' h1 h2 he

/-! ### What an operation makes new -/
theorem new_of {m : Operand → Option AOpd} {ρ : AOpd → Option Value} {ρc : Operand → Value} {o : Oper} {q : AOp} {v : Value} (hm : Opds ι m ρ ρc) (hc : cop P m o.op = some q) (h2 : cls q = 2) (ha : aop q ρ H = some (v, H')) :
    ∃ vs ty, H' = H.alloc (.cells vs ty) ∧ NewC P ι H.n w ((execOp ρc o).run P w) v vs ty := by
  cases ho : o.op with
  | alloc t => rw [ho] at hc; exact new_alloc ho hc ha
  | box t x => rw [ho] at hc; exact new_box ho hm hc ha
  | buildSlice t l ps => rw [ho] at hc; exact new_mksl ho hm hc ha
  | makeSlice t l c => rw [ho] at hc; exact new_mks ho hm hc ha
  | slice t x lo hi mx =>
    rw [ho] at hc
    cases mx with
    | none =>
      simp only [cop] at hc
      split at hc
      · obtain ⟨_, _, rfl⟩ := Option.map_eq_some_iff.1 hc; simp [cls] at h2
      · cases hc
    | some y => simp [cop] at hc
  | call c =>
    rw [ho] at hc
    simp only [cop] at hc
    (repeat' split at hc) <;> first | (cases hc; done) | (cases hc; simp [cls] at h2; done) | (obtain ⟨_, _, rfl⟩ := Option.map_eq_some_iff.1 hc; simp [cls] at h2; done)
  | _ =>
    rw [ho] at hc
    simp only [cop] at hc
    (repeat' split at hc) <;> first | (cases hc; done) | (cases hc; simp [cls] at h2; done) | (obtain ⟨_, _, rfl⟩ := Option.map_eq_some_iff.1 hc; simp [cls] at h2; done)

theorem touch_mapped {m : Operand → Option AOpd} {ρ : AOpd → Option Value} {ρc : Operand → Value} {op : Op} {q : AOp} {b : Nat} (hm : Opds ι m ρ ρc) (hc : cop P m op = some q) (h1 : cls q = 1) (ht : touch q ρ H = some b) : ∃ i, ι b = some i := by
  have key : ∀ x y u, m x = some y → ρ y = some (.pointer (some u)) → ∃ i, ι u.block = some i := fun x y u hx hy => by
    have := hm x y _ hx hy
    generalize ρc x = z at this
    cases this with
    | ptr h => exact ⟨_, h⟩
  have keys : ∀ x y u l c, m x = some y → ρ y = some (.slice (some u) l c) → ∃ i, ι u.block = some i := fun x y u l c hx hy => by
    have := hm x y _ hx hy
    generalize ρc x = z at this
    cases this with
    | slice h _ _ _ => exact ⟨_, h⟩
    | sany h _ => exact ⟨_, h⟩
  cases op with
  | load t x =>
    simp only [cop] at hc
    (repeat' split at hc) <;> first | (cases hc; done) | skip
    all_goals
      first
        | (obtain ⟨y, hy, rfl⟩ := Option.map_eq_some_iff.1 hc
           simp only [touch] at ht
           split at ht
           · rename_i u hu; cases ht; exact key _ _ _ hy hu
           · cases ht)
        | (cases hc
           simp only [touch] at ht
           split at ht
           · rename_i u hu; cases ht; exact key _ _ _ (by assumption) hu
           · cases ht)
  | slice t x lo hi mx =>
    cases mx with
    | none =>
      simp only [cop] at hc
      (repeat' split at hc) <;> first | (cases hc; done) | skip
      all_goals
        first
          | (obtain ⟨y, hy, rfl⟩ := Option.map_eq_some_iff.1 hc
             simp only [touch] at ht
             split at ht
             · rename_i u _ _ hu; cases ht; exact keys _ _ _ _ _ (by assumption) hu
             · cases ht)
          | (cases hc
             simp only [touch] at ht
             split at ht
             · rename_i u _ _ hu; cases ht; exact keys _ _ _ _ _ (by assumption) hu
             · cases ht)
    | some y => simp [cop] at hc
  | _ =>
    simp only [cop] at hc
    (repeat' split at hc) <;> first | (cases hc; done) | (cases hc; simp [cls] at h1; done) | (obtain ⟨_, _, rfl⟩ := Option.map_eq_some_iff.1 hc; simp [cls] at h1; done)

theorem touch_alive {q : AOp} {ρ : AOpd → Option Value} {v : Value} {b : Nat} (h1 : cls q = 1) (h : aop q ρ H = some (v, H')) (ht : touch q ρ H = some b) : H.get b ≠ .dead := by
  cases q <;> (first | (simp [cls] at h1; done) | skip)
  · rename_i x
    simp only [touch] at ht
    split at ht
    · rename_i u hu
      cases ht
      simp only [aop, hu] at h
      intro hd
      simp [cellsAt, hd] at h
    · cases ht
  · rename_i n x
    simp only [touch] at ht
    split at ht
    · rename_i u hu
      cases ht
      simp only [aop, hu] at h
      intro hd
      simp [cellsAt, hd] at h
    · cases ht
  · rename_i ty sz x lo hi
    simp only [touch] at ht
    split at ht
    · rename_i u len cap hu
      cases ht
      simp only [aop, hu] at h
      intro hd
      split at h
      · rename_i x1 l1 h1' e1 e2 e3
        cases e1
        split at h
        · rename_i u1 hu1
          simp only [sliceV, rowOk, hd] at hu1
          split at hu1
          · simp at hu1
          · cases hu1
        · cases h
      · cases h
    · cases ht

end Go.AB
