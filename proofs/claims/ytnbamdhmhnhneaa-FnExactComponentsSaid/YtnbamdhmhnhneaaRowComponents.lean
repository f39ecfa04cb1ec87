/- The law of components holds for every graph: the program's Components answers as the reference's Components does, writes into no argument, and its answer is memory of its own. No condition. -/
import Derived.Test.YtnbamdhmhnhneaaRows
import Derived.Test.YtnbamdhmhnhneaaT13
import Derived.Test.YtnbamdhmhnhneaaT28
import Derived.ProofKit
import Derived.OpenShut
import Derived.SizedLaws
namespace Go.Proofs.Ytnbamdhmhnhneaa.fnExactComponents
open Go.ChangeShapes Go.WideShapes Go.ChangeAt Go.RowKit Go.AB
set_option linter.unusedVariables false
set_option maxRecDepth 100000

theorem own : ownKnob Try.prog.godebug = none := by kernel_rfl
theorem laidOut : laidOutB Try.prog = true := by kernel_rfl
theorem simInt : Simple Go.Proofs.Try.prog 3 := .int Try.underlying3
theorem simInts : Simple Go.Proofs.Try.prog 22 := .slice Try.underlying22 (of_decide_eq_true (by kernel_rfl)) simInt
theorem cells1 : (Go.Proofs.Try.prog).cellsOf 3 = 1 := by kernel_rfl
theorem cells2 : (Go.Proofs.Try.prog).cellsOf 22 = 1 := by kernel_rfl
theorem cells5 : (Go.Proofs.Try.prog).cellsOf 24 = 5 := by kernel_rfl
theorem bytes8 : (Go.Proofs.Try.prog).bytesOf 3 = 8 := by kernel_rfl
theorem simGraph : Simple Go.Proofs.Try.prog 24 := by
  refine .struct Try.underlying24 ?_ ?_
  · simp only [tiles, cells1, cells2, cells5]
    decide
  · intro f hf
    simp only [List.mem_cons, List.not_mem_nil, or_false] at hf
    rcases hf with rfl | rfl | rfl | rfl | rfl
    · exact simInt
    all_goals exact simInts

/-- A graph that comes in. -/
theorem graph_in {n : Nat} {H : AHeap} {vs : List Value} (h : ReadAs Go.Proofs.Try.prog H n 24 vs) : ∃ (g : GV) (x : GD), vs = g.cs ∧ GArr H g x ∧ x.size ≤ 2 ^ 60 := by
  obtain ⟨m, rfl, hl, hf⟩ := read_struct Try.underlying24 h
  rw [cells5] at hl
  obtain ⟨a, b, c, d, e, rfl⟩ : ∃ a b c d e, vs = [a, b, c, d, e] := by
    match vs, hl with
    | [a, b, c, d, e], _ => exact ⟨a, b, c, d, e, rfl⟩
  have f0 : ReadAs Go.Proofs.Try.prog H m 3 [a] := by
    have q : ReadAs Go.Proofs.Try.prog H m 3 (List.take ((Go.Proofs.Try.prog).cellsOf 3) (List.drop 0 [a, b, c, d, e])) := hf 0 _ rfl
    rw [cells1] at q; exact q
  have f1 : ReadAs Go.Proofs.Try.prog H m 22 [b] := by
    have q : ReadAs Go.Proofs.Try.prog H m 22 (List.take ((Go.Proofs.Try.prog).cellsOf 22) (List.drop 1 [a, b, c, d, e])) := hf 1 _ rfl
    rw [cells2] at q; exact q
  have f2 : ReadAs Go.Proofs.Try.prog H m 22 [c] := by
    have q : ReadAs Go.Proofs.Try.prog H m 22 (List.take ((Go.Proofs.Try.prog).cellsOf 22) (List.drop 2 [a, b, c, d, e])) := hf 2 _ rfl
    rw [cells2] at q; exact q
  have f3 : ReadAs Go.Proofs.Try.prog H m 22 [d] := by
    have q : ReadAs Go.Proofs.Try.prog H m 22 (List.take ((Go.Proofs.Try.prog).cellsOf 22) (List.drop 3 [a, b, c, d, e])) := hf 3 _ rfl
    rw [cells2] at q; exact q
  have f4 : ReadAs Go.Proofs.Try.prog H m 22 [e] := by
    have q : ReadAs Go.Proofs.Try.prog H m 22 (List.take ((Go.Proofs.Try.prog).cellsOf 22) (List.drop 4 [a, b, c, d, e])) := hf 4 _ rfl
    rw [cells2] at q; exact q
  obtain ⟨i, h0, -⟩ := read_int Try.underlying3 f0
  obtain ⟨s1, x1, h1, a1, b1, -⟩ := read_ints Try.underlying22 Try.underlying3 cells1 f1
  obtain ⟨s2, x2, h2, a2, b2, -⟩ := read_ints Try.underlying22 Try.underlying3 cells1 f2
  obtain ⟨s3, x3, h3, a3, b3, -⟩ := read_ints Try.underlying22 Try.underlying3 cells1 f3
  obtain ⟨s4, x4, h4, a4, b4, -⟩ := read_ints Try.underlying22 Try.underlying3 cells1 f4
  cases h0; cases h1; cases h2; cases h3; cases h4
  rw [bytes8] at b1 b2 b3 b4
  simp only [reachBytes] at b1 b2 b3 b4
  exact ⟨⟨i, s1, s2, s3, s4⟩, ⟨i, x1, x2, x3, x4⟩, rfl, ⟨rfl, a1 _, a2 _, a3 _, a4 _⟩, by simp only [GD.size]; omega⟩

theorem lifted (os : Os) (started : os.Started) (H : Type) (enc : TypeId × Value → H) :
    ReturnsInHanded {} Try.checked os 4 .any (Rows.fnExactComponentsSpec.pre6 enc Go.Proofs.Try.prog Try.f4 Rows.fnExactComponentsRow.domain false) (Rows.fnExactComponentsSpec.post enc Go.Proofs.Try.prog Try.f4 false true false false) := by
  refine returnsInHanded_of_change_sized (C := Try.checked) own started (by kernel_rfl) Try.func4
    (ChangeSpec.witness6 (enc := enc) (C := Try.checked) false ⟨#[], #[.agg #[.int .i64 0, .slice none 0 0, .slice none 0 0, .slice none 0 0, .slice none 0 0]], []⟩ 8 (by kernel_rfl) (by kernel_rfl) (by kernel_rfl) (by kernel_rfl)) ?_
  intro W base args ds gs before hval0 hW hcnd hsz0 _
  have hsz : (DataW.weightsEach Go.Proofs.Try.prog (Try.f4.params.toList ++ Rows.fnExactComponentsSpec.plain.varTypes Go.Proofs.Try.prog) (ds ++ gs)).all (· ≤ reachBytes) = true := hsz0
  have hval : ∀ (j : Nat) t v, Try.f4.params[j]? = some t → args[j]? = some v → Value.okWide Go.Proofs.Try.prog W .any base t v := hval0
  have hW' := hW
  obtain ⟨p, q, hA0, hV, rfl, hfz, hnd⟩ := hW
  have hA : DataW.TrodAll enc Go.Proofs.Try.prog W 0 (fun _ => true) true Try.f4.params.toList args.toList ds p := hA0
  rw [Try.params4] at hA hval hsz
  obtain ⟨v0, vs0, d0, ds0, p0, q0, hargs, rfl, rfl, h0, r0⟩ := trodAll_cons hA
  obtain ⟨rfl, rfl, rfl⟩ := trodAll_nil r0
  obtain rfl : args = #[v0] := by cases args; simp_all
  obtain ⟨rfl, rfl⟩ := trodVars_none hV
  obtain ⟨cs, rfl, -⟩ := okWide_struct Try.underlying24 (hval 0 24 v0 rfl rfl)
  have k0 := h0
  have lt0 : ∀ x ∈ p0, x.block < W.heap.size := by obtain ⟨m, hm⟩ := k0; exact DataW.trod_lt m _ _ _ hm
  obtain ⟨n, hn⟩ := h0
  have hw0 : ∀ w ∈ d0.weights Go.Proofs.Try.prog 24, w ≤ reachBytes := fun w hw => by
    have := List.all_eq_true.1 hsz w (weightsEach_mem (i := 0) (t := 24) (d := d0) rfl rfl hw)
    simpa using this
  obtain ⟨ι, G, vs, hR, -, -, hL, ho, hread⟩ := (read_trod n _ _ _ _ simGraph (rel_start (P := Go.Proofs.Try.prog) (W := W)) ⟨_, enc, _, hn, hw0⟩).out
  obtain ⟨g, x, rfl, hg, hx⟩ := graph_in hread
  obtain ⟨v, G', hcall, -, rfl⟩ := lawComponents_rets (w0 := W) hg hx
  have hrel : RelL ι [g.v] [.agg cs] := by
    refine .cons ?_ .nil
    have := RelV.agg_list ho hL
    simpa [Value.cells] using this
  clear hA0 hval0 hsz0 hsz
  refine (hcall ι W _ hR hrel).mono fun e W' ⟨ι', u, v', G'', he, hR', hrv, hfr, hu, hG⟩ => ?_
  subst hu
  have hv' := bool_of hrv
  subst hv'
  subst he
  have bel := hR'.old
  exact ⟨_, rfl, _, _, _, [], _, [], hW', trodAll_mk1 (shut_bool Try.underlying4 _), (trodAll_cons_mk (Below.trod laidOut (by kernel_rfl) (of_decide_eq_true (by kernel_rfl)) k0 bel lt0) trodAll_mk0), rfl, bel.frame _, fun h => by cases h⟩

theorem over : Rows.fnExactComponentsRow.holds Try.pinned (OpenSpec.ofChange Rows.fnExactComponentsSpec) :=
  OpenClaim.holds_of_wide 4 Try.f4 rfl rfl rfl rfl rfl rfl rfl ⟨rfl, rfl, rfl, rfl, rfl⟩ rfl rfl rfl rfl rfl (by kernel_rfl) Try.func4 (by kernel_rfl)
    (of_decide_eq_true (by kernel_rfl)) (by unfold Func.isWrapper; first | (rw [if_pos (by decide +kernel)]; kernel_rfl) | (rw [if_neg (by decide +kernel)]; exact ⟨rfl, rfl⟩))
    (fun os started H enc _ => lifted os started H enc)
theorem proved : Rows.FnExactComponentsSaid := over
#print axioms proved
end Go.Proofs.Ytnbamdhmhnhneaa.fnExactComponents
namespace Go.Proofs.Ytnbamdhmhnhneaa
/-- The row, under a short name, for the claim. -/
theorem fnExactComponents_holds : Rows.FnExactComponentsSaid := fnExactComponents.proved
end Go.Proofs.Ytnbamdhmhnhneaa
