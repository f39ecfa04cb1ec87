/- What comes in: slices of int, graphs. -/
import Derived.Test.YtnbamdhmhnhneaaT12
import Derived.Test.YtnbamdhmhnhneaaB22
import Derived.Below
set_option linter.unusedVariables false
set_option linter.unusedSimpArgs false
set_option maxRecDepth 10000
namespace Go.AB
open Go.Proofs Go.RowKit
variable {P : Program} {W : World} {H : AHeap}

def AHeap.none0 : AHeap := ⟨0, fun _ => .dead, fun _ _ => rfl⟩
theorem rel_start : RelH P W (fun _ => none) AHeap.none0 W :=
  ⟨Below.refl _ _, (fun b i h => by cases h), (fun b i h => by cases h), (fun b b' i i' h => by cases h)⟩
theorem Arr.ofRo {b len sz : Nat} {ty : TypeId} {cells : List Value} (h : H.get b = .ro cells) (hl : cells.length = len * sz) : Arr H (.at b 0 len) ty sz cells :=
  ⟨hl, fun b' o n he => by cases he; exact ⟨[], [], .inr (by rw [h]; simp), rfl⟩⟩
theorem Arr.stand {H' : AHeap} {s : SV} {ty : TypeId} {sz : Nat} {cs : List Value} (h : Arr H s ty sz cs) (k : Stand H H') (hr : ∀ b o n, s = .at b o n → ∃ vs, H.get b = .ro vs) : Arr H' s ty sz cs :=
  h.keep fun b hb => by
    cases s with
    | nil => exact absurd trivial hb
    | «at» c o n =>
      simp only [SV.off, ne_eq, Decidable.not_not] at hb
      subst hb
      obtain ⟨vs, hvs⟩ := hr c o n rfl
      rw [hvs, k.2 _ _ hvs]
theorem read_int {n : Nat} {t : TypeId} {k : IntKind} {vs : List Value} (hu : P.underlying t = some (.int k)) (h : ReadAs P H n t vs) : ∃ m, vs = [.int k m] ∧ (Lit.int k m).wf = true := by
  cases n with
  | zero => exact h.elim
  | succ n => unfold ReadAs at h; rw [hu] at h; exact h
theorem read_slice {n : Nat} {t e : TypeId} {vs : List Value} (hu : P.underlying t = some (.slice e)) (h : ReadAs P H n t vs) :
    vs = [SV.nil.v] ∨ ∃ m b len cells, n = m + 1 ∧ vs = [(SV.at b 0 len).v] ∧ H.get b = .ro cells ∧ cells.length = len * P.cellsOf e ∧ len * P.bytesOf e ≤ reachBytes ∧ ∀ i, i < len → ReadAs P H m e ((cells.drop (i * P.cellsOf e)).take (P.cellsOf e)) := by
  cases n with
  | zero => exact h.elim
  | succ n =>
    unfold ReadAs at h; rw [hu] at h
    rcases h with h | ⟨b, len, cells, h⟩
    · exact .inl h
    · exact .inr ⟨n, b, len, cells, rfl, h⟩
theorem read_struct {n : Nat} {t : TypeId} {fs : Array Field} {vs : List Value} (hu : P.underlying t = some (.struct fs)) (h : ReadAs P H n t vs) :
    ∃ m, n = m + 1 ∧ vs.length = P.cellsOf t ∧ ∀ (i : Nat) (f : Field), fs[i]? = some f → ReadAs P H m f.type ((vs.drop f.offset).take (P.cellsOf f.type)) := by
  cases n with
  | zero => exact h.elim
  | succ n => unfold ReadAs at h; rw [hu] at h; exact ⟨n, rfl, h⟩
def intOf : Value → Int
  | .int _ n => n
  | _ => 0
theorem read_ints {n : Nat} {t e : TypeId} {k : IntKind} {vs : List Value} (hu : P.underlying t = some (.slice e)) (hi : P.underlying e = some (.int k)) (hc : P.cellsOf e = 1) (h : ReadAs P H n t vs) :
    ∃ (s : SV) (xs : List Int), vs = [s.v] ∧ (∀ ty, Arr H s ty 1 (xs.map (Value.int k))) ∧ xs.length * P.bytesOf e ≤ reachBytes ∧ ∀ x ∈ xs, (Lit.int k x).wf = true := by
  rcases read_slice hu h with rfl | ⟨m, b, len, cells, rfl, rfl, hg, hl, hm, hr⟩
  · exact ⟨.nil, [], rfl, fun _ => Arr.nil, by simp, fun x hx => by cases hx⟩
  · rw [hc, Nat.mul_one] at hl
    have key : ∀ i, i < len → ∃ x, cells[i]? = some (.int k x) ∧ (Lit.int k x).wf = true := fun i hi' => by
      obtain ⟨x, hx, hw⟩ := read_int hi (hr i hi')
      rw [hc, Nat.mul_one] at hx
      refine ⟨x, ?_, hw⟩
      have := congrArg (·[0]?) hx
      simpa using this
    have hcx : cells = (cells.map intOf).map (Value.int k) := by
      refine List.ext_getElem? fun i => ?_
      by_cases hi' : i < len
      · obtain ⟨x, hx, _⟩ := key i hi'
        rw [hx, List.getElem?_map, List.getElem?_map, hx]; rfl
      · rw [List.getElem?_eq_none (by omega), List.getElem?_eq_none (by simp; omega)]
    refine ⟨.at b 0 len, cells.map intOf, rfl, fun ty => by rw [← hcx]; exact Arr.ofRo hg (by omega), by simpa [hl] using hm, fun x hx => ?_⟩
    obtain ⟨v, hv, rfl⟩ := List.mem_map.1 hx
    obtain ⟨i, hi', rfl⟩ := List.getElem_of_mem hv
    obtain ⟨x, hx, hw⟩ := key i (by omega)
    rw [List.getElem?_eq_getElem hi'] at hx
    rw [Option.some.injEq] at hx
    rw [hx]; exact hw
end Go.AB
