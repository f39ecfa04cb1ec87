/- Own framework, part 10: how far an operation hangs on the heap. -/
import Derived.Test.YtnbamdhmhnhneaaB8
set_option linter.unusedVariables false
set_option linter.unusedSimpArgs false
namespace Go.AB
open Go.RowKit

variable {q : AOp} {ρ : AOpd → Option Value} {H H' : AHeap} {v : Value}

theorem aop_pure (hc : cls q = 0) (h : aop q ρ H = some (v, H')) : H' = H ∧ ∀ G, aop q ρ G = some (v, G) := by
  cases q <;> (first | (simp [cls] at hc; done) | skip)
  all_goals first | (simp [aop] at h; done) | skip
  all_goals
    simp only [aop] at h ⊢
    (repeat' split at h) <;> first | (cases h; done) | (cases h; refine ⟨rfl, fun G => ?_⟩; simp_all <;> assumption)

theorem aop_read (hc : cls q = 1) (h : aop q ρ H = some (v, H')) : H' = H ∧ ∀ G : AHeap, (∀ b, touch q ρ H = some b → G.get b = H.get b) → aop q ρ G = some (v, G) := by
  cases q <;> (first | (simp [cls] at hc; done) | skip)
  · rename_i x
    simp only [aop] at h
    split at h
    · rename_i a e1
      have e := h
      (repeat' split at h) <;> try (cases h; done)
      rename_i vs hvs _ u hu
      cases h
      refine ⟨rfl, fun G hG => ?_⟩
      have hb := hG a.block (by simp [touch, e1])
      simp only [aop, e1]
      have : cellsAt G a.block = some vs := by rw [← hvs]; simp [cellsAt, hb]
      simp only [this, hu]
    · cases h
  · rename_i n x
    simp only [aop] at h
    split at h
    · rename_i a e1
      (repeat' split at h) <;> try (cases h; done)
      rename_i vs hvs _ u hu
      cases h
      refine ⟨rfl, fun G hG => ?_⟩
      have hb := hG a.block (by simp [touch, e1])
      simp only [aop, e1]
      have : cellsAt G a.block = some vs := by rw [← hvs]; simp [cellsAt, hb]
      simp only [this, hu]
    · cases h
  · rename_i ty sz x lo hi
    simp only [aop] at h
    split at h
    · rename_i a l hh e1 e2 e3
      split at h
      · rename_i u hu
        cases h
        refine ⟨rfl, fun G hG => ?_⟩
        simp only [aop, e1, e2, e3]
        have : sliceV G ty sz a l hh = some v := by
          rw [← hu]
          unfold sliceV
          split
          · rfl
          · rename_i ad len cap
            have hb := hG ad.block (by simp [touch, e1])
            have hro : rowOk G ty ad.block = rowOk H ty ad.block := by simp [rowOk, hb]
            simp only [hro]
          · rfl
        simp only [this]
      · cases h
    · cases h

theorem aop_new (hc : cls q = 2) (h : aop q ρ H = some (v, H')) : ∃ o, o ≠ .dead ∧ H' = H.alloc o ∧ touch q ρ H = some H.n ∧ ∀ G : AHeap, G.n = H.n → aop q ρ G = some (v, G.alloc o) := by
  cases q <;> (first | (simp [cls] at hc; done) | skip)
  case mks ty zs bytes l c =>
    simp only [aop] at h
    split at h
    · rename_i k n k2 m2 e1 e2
      split at h
      · rename_i hcond
        cases h
        refine ⟨_, by simp, rfl, rfl, fun G hG => ?_⟩
        simp only [aop, e1, e2, if_pos hcond, hG]
      · cases h
    · cases h
  all_goals
    simp only [aop] at h
    (repeat' split at h) <;> first | (cases h; done) | (cases h; refine ⟨_, by simp, rfl, rfl, fun G hG => ?_⟩; simp_all [aop] <;> assumption)

end Go.AB
