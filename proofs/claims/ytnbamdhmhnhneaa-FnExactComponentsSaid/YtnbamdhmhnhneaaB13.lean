/- Own framework, part 13: a region whose operations come up in any order, shown (2). -/
import Derived.Test.YtnbamdhmhnhneaaB12
set_option linter.unusedVariables false
set_option linter.unusedSimpArgs false
namespace Go.AB
open Go.RowKit

def bit (ops : List Oper) (i b : Nat) : Bool := ((masks [] ops).getD i 0).testBit b

structure DrawOk (ops : List Oper) (l : List AOper) : Prop where
  len : l.length = ops.length
  dep : ∀ (i : Nat) o, ops[i]? = some o → ∀ j ∈ depsOf o, j < i
  use : ∀ (i : Nat) o t (k : Nat) u, ops[i]? = some o → t ∈ tmpsOf o.op.operands → ops[k]? = some u → u.dst = some t → k = i ∨ (if k < i then bit ops i k else bit ops k i) = true
  guard : ∀ (i : Nat) o j w, ops[i]? = some o → o.guard = some (j, w) → bit ops i j = true
  chain : ∀ (i : Nat) p (k : Nat) u, l[i]? = some p → (cls p.op = 3 ∨ cls p.op = 2) → k < i → l[k]? = some u → cls u.op = 3 → bit ops i k = true

theorem drawOk_spec {ops : List Oper} {l : List AOper} (hl : l.length = ops.length) (h : drawOk ops l (masks [] ops) = true) : DrawOk ops l := by
  have key : ∀ (i : Nat) o p, ops[i]? = some o → l[i]? = some p → _ := fun i o p ho hp => by
    have := List.all_eq_true.1 h i (List.mem_range.2 (List.getElem?_eq_some_iff.1 ho).1)
    simp only [ho, hp, Bool.and_eq_true] at this
    exact this
  have both : ∀ (i : Nat) o, ops[i]? = some o → ∃ p, l[i]? = some p := fun i o ho =>
    ⟨_, List.getElem?_eq_getElem (by rw [hl]; exact (List.getElem?_eq_some_iff.1 ho).1)⟩
  have both' : ∀ (i : Nat) p, l[i]? = some p → ∃ o, ops[i]? = some o := fun i p hp =>
    ⟨_, List.getElem?_eq_getElem (by rw [← hl]; exact (List.getElem?_eq_some_iff.1 hp).1)⟩
  refine ⟨hl, fun i o ho j hj => ?_, fun i o t k u ho ht hk hu => ?_, fun i o j w ho hg => ?_, fun i p k u hp hc hki hk hu => ?_⟩
  · obtain ⟨p, hp⟩ := both i o ho
    have := List.all_eq_true.1 (key i o p ho hp).1.1.1 j hj
    simpa using this
  · obtain ⟨p, hp⟩ := both i o ho
    have h1 := List.all_eq_true.1 (key i o p ho hp).1.1.2 t ht
    have h2 := List.all_eq_true.1 h1 k (List.mem_range.2 (List.getElem?_eq_some_iff.1 hk).1)
    simp only [hk, hu, beq_self_eq_true, Bool.not_true, Bool.false_or, Bool.or_eq_true, beq_iff_eq] at h2
    exact h2
  · obtain ⟨p, hp⟩ := both i o ho
    have := (key i o p ho hp).1.2
    rw [hg] at this
    exact this
  · obtain ⟨o, ho⟩ := both' i p hp
    have h1 := (key i o p ho hp).2
    have hc' : (isChain p || cls p.op == 2) = true := by
      rcases hc with c | c <;> simp [isChain, c]
    rw [hc'] at h1
    simp only [Bool.not_true, Bool.false_or] at h1
    have h2 := List.all_eq_true.1 h1 k (List.mem_range.2 hki)
    simp only [hk] at h2
    have hu' : isChain u = true := by simp [isChain, hu]
    rw [hu'] at h2
    simp only [Bool.not_true, Bool.false_or] at h2
    exact h2

structure Ctx (P : Program) (w0 : World) (pv : List Nat) (nt : Nat) (ops : List Oper) (l : List AOper) (V : Nat → Value) (Hs : Nat → AHeap) (T : Nat → Option Nat) (Es : Nat → Env) : Prop where
  tr : Trace P w0 l [] V Hs T Es
  ok : DrawOk ops l
  cmp : ∀ (i : Nat) o, ops[i]? = some o → ∃ p, l[i]? = some p ∧ Cmp1 P pv nt (dsAt ops i) o p
  cond : ∀ (i k : Nat) p q b, l[i]? = some p → l[k]? = some q → cls q.op = 3 → (cls p.op = 1 ∧ (if i < k then bit ops k i = false else k < i ∧ bit ops i k = false)) ∨ (cls p.op = 2 ∧ i < k ∧ bit ops k i = false) → T i = some b → (Hs (k + 1)).get b = (Hs k).get b

section
variable {P : Program} {w0 w w' ws : World} {ι ι' ι0 : Inj} {H H' H0 : AHeap} {pv : List Nat} {nt : Nat} {e e0 : Env} {a : Act} {ops : List Oper} {l : List AOper} {V : Nat → Value} {Hs : Nat → AHeap} {T : Nat → Option Nat} {Es : Nat → Env}

theorem Ctx.step (c : Ctx P w0 pv nt ops l V Hs T Es) {i : Nat} {p : AOper} (hp : l[i]? = some p) : Step1 P w0 p (revs V i) (Es i) (Hs i) (V i) (T i) (Hs (i + 1)) := by
  have := c.tr.step i p hp
  simpa using this
theorem Ctx.get (c : Ctx P w0 pv nt ops l V Hs T Es) {i : Nat} (h : i < ops.length) : ∃ p, l[i]? = some p := ⟨_, List.getElem?_eq_getElem (by rw [c.ok.len]; exact h)⟩
theorem Ctx.mono (c : Ctx P w0 pv nt ops l V Hs T Es) {i j : Nat} (hij : i ≤ j) (hj : j ≤ ops.length) : (Hs i).n ≤ (Hs j).n := by
  induction j with
  | zero => have : i = 0 := by omega
            subst this; exact Nat.le_refl _
  | succ j ih =>
    rcases Nat.lt_or_ge i (j + 1) with h | h
    · obtain ⟨p, hp⟩ := c.get (i := j) (by omega)
      exact Nat.le_trans (ih (by omega) (by omega)) (c.step hp).mono
    · have : i = j + 1 := by omega
      subst this; exact Nat.le_refl _
theorem Ctx.stab (c : Ctx P w0 pv nt ops l V Hs T Es) {i j b : Nat} (hij : i ≤ j) (hj : j ≤ ops.length) (hb : b < (Hs i).n) (hq : ∀ (k : Nat) q, i ≤ k → k < j → l[k]? = some q → cls q.op = 3 → (Hs (k + 1)).get b = (Hs k).get b) : (Hs j).get b = (Hs i).get b := by
  induction j with
  | zero => have : i = 0 := by omega
            subst this; rfl
  | succ j ih =>
    rcases Nat.lt_or_ge i (j + 1) with h | h
    · obtain ⟨p, hp⟩ := c.get (i := j) (by omega)
      rw [← ih (by omega) (by omega) (fun k q h1 h2 => hq k q h1 (by omega))]
      by_cases hc : cls p.op = 3
      · exact hq j p (by omega) (by omega) hp hc
      · exact (c.step hp).quiet hc (Nat.lt_of_lt_of_le hb (c.mono (by omega) (by omega)))
    · have : i = j + 1 := by omega
      subst this; rfl
theorem Ctx.envAt (c : Ctx P w0 pv nt ops l V Hs T Es) {t : Nat} (ht : pv.contains t = true) : ∀ (i : Nat), i ≤ ops.length →
    (∃ j o, j < i ∧ ops[j]? = some o ∧ o.dst = some t ∧ Es i t = some (V j)) ∨ ((∀ (j : Nat) o, j < i → ops[j]? = some o → o.dst ≠ some t) ∧ Es i t = Es 0 t)
  | 0, _ => .inr ⟨fun j o h => by omega, rfl⟩
  | i + 1, hi => by
    have ho : ops[i]? = some ops[i] := List.getElem?_eq_getElem (by omega)
    obtain ⟨p, hp, hcmp⟩ := c.cmp i _ ho
    have he := c.tr.env i p hp
    rw [hcmp.dst] at he
    by_cases hd : ops[i].dst = some t
    · refine .inl ⟨i, _, by omega, ho, hd, ?_⟩
      rw [he, hd]; simp only [pdst, ht, if_true, Env.put]
    · have hsame : Es (i + 1) t = Es i t := by
        rw [he]
        cases hdd : ops[i].dst with
        | none => rfl
        | some d =>
          have hne : t ≠ d := fun h => hd (by rw [hdd, h])
          simp only [pdst]
          split
          · simp [Env.put, hne]
          · rfl
      rcases c.envAt ht i (by omega) with ⟨j, o, h1, h2, h3, h4⟩ | ⟨h1, h2⟩
      · exact .inl ⟨j, o, by omega, h2, h3, by rw [hsame, h4]⟩
      · refine .inr ⟨fun j o hj hoj => ?_, by rw [hsame, h2]⟩
        by_cases hji : j = i
        · subst hji; rw [ho] at hoj; cases hoj; exact hd
        · exact h1 j o (by omega) hoj
theorem Ctx.newId (c : Ctx P w0 pv nt ops l V Hs T Es) {i : Nat} {p : AOper} {b : Nat} (hp : l[i]? = some p) (h2 : cls p.op = 2) (ht : T i = some b) : b = (Hs i).n ∧ b < (Hs (i + 1)).n := by
  rcases c.step hp with ⟨_, _, h, _⟩ | ⟨_, h⟩
  · rw [ht] at h; cases h
  · obtain ⟨h3, h4⟩ := h.aop (by omega)
    obtain ⟨o, _, ho, hto, _⟩ := aop_new h2 h3
    rw [ht, hto] at h4
    cases h4
    exact ⟨rfl, by rw [ho]; simp⟩
theorem Ctx.next (c : Ctx P w0 pv nt ops l V Hs T Es) : ∀ (m p : Nat), ops.length - p = m → p ≤ ops.length → ∃ p', p ≤ p' ∧ p' ≤ ops.length ∧ (p' < ops.length → ∃ q, l[p']? = some q ∧ cls q.op = 3) ∧ ∀ (k : Nat) q, p ≤ k → k < p' → l[k]? = some q → cls q.op ≠ 3
  | 0, p, h, hp => ⟨p, Nat.le_refl _, hp, fun h' => by omega, fun k q h1 h2 => by omega⟩
  | m + 1, p, h, hp => by
    obtain ⟨q, hq⟩ := c.get (i := p) (by omega)
    by_cases hc : cls q.op = 3
    · exact ⟨p, Nat.le_refl _, hp, fun _ => ⟨q, hq, hc⟩, fun k q h1 h2 => by omega⟩
    · obtain ⟨p', h1, h2, h3, h4⟩ := c.next m (p + 1) (by omega) (by omega)
      refine ⟨p', by omega, h2, h3, fun k q' hk hk' hq' => ?_⟩
      by_cases hkp : k = p
      · subst hkp; rw [hq] at hq'; cases hq'; exact hc
      · exact h4 k q' (by omega) hk' hq'

/-- In the midst of it: S has been done; p is the next link of the chain. -/
structure Mid (P : Program) (w0 : World) (pv : List Nat) (nt : Nat) (ops : List Oper) (l : List AOper) (V : Nat → Value) (Hs : Nat → AHeap) (T : Nat → Option Nat) (Es : Nat → Env) (ι0 : Inj) (ws : World)
    (S : Nat → Prop) (p : Nat) (ι : Inj) (a : Act) (w : World) : Prop where
  rel : RelH P w0 ι (Hs p) w
  size : nt ≤ a.tmps.size
  defers : a.defers = []
  slot : ∀ (i : Nat) o d, ops[i]? = some o → S i → o.dst = some d → RelV ι (V i) (a.tmps.getD d undef)
  var : ∀ t u, pv.contains t = true → (∀ (i : Nat) o, ops[i]? = some o → S i → o.dst ≠ some t) → Es 0 t = some u → RelV ι u (a.tmps.getD t undef)
  frame : Frame ι0 (Hs 0) ws ι (Hs p) w
  fresh : ∀ (i : Nat) q, l[i]? = some q → ¬ S i → cls q.op = 2 → ∀ b, T i = some b → ι b = none
  chain : ∀ (i : Nat) q, l[i]? = some q → cls q.op = 3 → (S i ↔ i < p)
  le : p ≤ ops.length
  nxt : p < ops.length → ∃ q, l[p]? = some q ∧ cls q.op = 3
  closed : ∀ (i : Nat) o, ops[i]? = some o → S i → ∀ j ∈ depsOf o, S j

variable {S : Nat → Prop} {p : Nat}

theorem Mid.bits (c : Ctx P w0 pv nt ops l V Hs T Es) (M : Mid P w0 pv nt ops l V Hs T Es ι0 ws S p ι a w) {i : Nat} {o : Oper} (ho : ops[i]? = some o) (hd : ∀ j ∈ depsOf o, S j) {b : Nat} (h : bit ops i b = true) : S b :=
  closed_bit c.ok.dep M.closed i o ho hd b h
theorem Mid.bitS (c : Ctx P w0 pv nt ops l V Hs T Es) (M : Mid P w0 pv nt ops l V Hs T Es ι0 ws S p ι a w) {i : Nat} (hi : i < ops.length) (hs : S i) {b : Nat} (h : bit ops i b = true) : S b :=
  closed_bit c.ok.dep M.closed i _ (List.getElem?_eq_getElem hi) (M.closed i _ (List.getElem?_eq_getElem hi) hs) b h

theorem Mid.opds (c : Ctx P w0 pv nt ops l V Hs T Es) (M : Mid P w0 pv nt ops l V Hs T Es ι0 ws S p ι a w) {i : Nat} {o : Oper} (ho : ops[i]? = some o) (hn : ¬ S i) (hd : ∀ j ∈ depsOf o, S j) :
    Opds ι (mopd pv (dsAt ops i) (tmpsOf o.op.operands)) (ev (revs V i) (Es i)) a.eval := by
  have hil : i < ops.length := (List.getElem?_eq_some_iff.1 ho).1
  intro x y u hx hy
  cases x with
  | tmp t =>
    simp only [mopd] at hx
    split at hx
    case isFalse => cases hx
    rename_i hts
    have hts' : t ∈ tmpsOf o.op.operands := by simpa using hts
    split at hx
    · rename_i k hk
      cases hx
      simp only [ev] at hy
      obtain ⟨hlt, hk2, _⟩ := List.findIdx?_eq_some_iff_getElem.1 hk
      have hdk : (dsAt ops i)[k]? = some (some t) := by
        rw [List.getElem?_eq_getElem hlt]
        simpa using hk2
      rw [dsAt_get ops (by omega)] at hdk
      split at hdk
      case isFalse => cases hdk
      rename_i hki
      obtain ⟨oj, hoj, hdst⟩ := Option.map_eq_some_iff.1 hdk
      rw [revs_get, if_pos hki] at hy
      cases hy
      have hS : S (i - 1 - k) := by
        rcases c.ok.use i o t (i - 1 - k) oj ho hts' hoj hdst with h | h
        · omega
        · rw [if_pos (by omega)] at h
          exact M.bits c ho hd h
      exact M.slot _ oj t hoj hS hdst
    · rename_i hnone
      split at hx
      · rename_i hpv
        cases hx
        simp only [ev] at hy
        have hno : ∀ (j : Nat) oj, j < i → ops[j]? = some oj → oj.dst ≠ some t := fun j oj hj hoj hdst => by
          have h1 := List.findIdx?_eq_none_iff.1 hnone (some t) (List.mem_of_getElem? (i := i - 1 - j) (by
            rw [dsAt_get ops (by omega), if_pos (by omega)]
            have : i - 1 - (i - 1 - j) = j := by omega
            rw [this, hoj]; simp [hdst]))
          simp at h1
        rcases c.envAt hpv i (by omega) with ⟨j, oj, h1, h2, h3, _⟩ | ⟨_, h2⟩
        · exact absurd h3 (hno j oj h1 h2)
        · refine M.var t u hpv (fun k ok hk hs hdst => ?_) (by rw [← h2]; exact hy)
          rcases c.ok.use i o t k ok ho hts' hk hdst with h | h
          · subst h; exact hn hs
          · rcases Nat.lt_or_ge k i with hki | hki
            · exact hno k ok hki hk hdst
            · rw [if_neg (by omega)] at h
              exact hn (M.bitS c (List.getElem?_eq_some_iff.1 hk).1 hs h)
      · cases hx
  | const c =>
    simp only [mopd] at hx
    split at hx
    · rename_i hc
      cases hx
      simp only [ev, Option.some.injEq] at hy
      subst hy
      exact constOk_rel hc
    · cases hx
  | func f =>
    simp only [mopd, Option.some.injEq] at hx
    subst hx
    simp only [ev, Option.some.injEq] at hy
    subst hy
    exact .func rfl rfl (fun j x y h => by simp at h) (fun j x y h => by simp at h)
  | global g => simp [mopd] at hx

theorem Mid.wanted (c : Ctx P w0 pv nt ops l V Hs T Es) (M : Mid P w0 pv nt ops l V Hs T Es ι0 ws S p ι a w) {i : Nat} {o : Oper} {q : AOper} (ho : ops[i]? = some o) (hd : ∀ j ∈ depsOf o, S j) (hc : Cmp1 P pv nt (dsAt ops i) o q) {b : Bool} (hg : gd (revs V i) q.guard = some b) :
    Region.wanted o (yielded ops.toArray a.tmps) = b := by
  have hil : i < ops.length := (List.getElem?_eq_some_iff.1 ho).1
  rcases hc.guard with ⟨h1, h2⟩ | ⟨j, want, h1, h2, h3⟩
  · rw [h2] at hg
    simp only [gd, Option.some.injEq] at hg
    subst hg
    simp [Region.wanted, h1]
  · have hb := c.ok.guard i o j want ho h1
    have hS := M.bits c ho hd hb
    simp only [gOk, Bool.and_eq_true, decide_eq_true_eq, dsAt_length ops (Nat.le_of_lt hil)] at h2
    obtain ⟨hji, hdj⟩ := h2
    rw [dsAt_get ops (by omega), if_pos (by omega)] at hdj
    have e1 : i - 1 - (i - 1 - j) = j := by omega
    rw [e1] at hdj
    have hoj : ops[j]? = some ops[j] := List.getElem?_eq_getElem (by omega)
    rw [hoj] at hdj
    simp only [Option.map_some] at hdj
    split at hdj
    case h_2 => cases hdj
    rename_i d hdd
    have hdd : ops[j].dst = some d := by simpa using hdd
    have hrel := M.slot j _ d hoj hS hdd
    obtain ⟨pj, hpj, hcj⟩ := c.cmp j _ hoj
    have hdn : d < nt := by
      have := hcj.ok
      rw [hdd] at this
      simp only [dstOk, Bool.and_eq_true, decide_eq_true_eq] at this
      exact this.1
    have hsz := M.size
    have hgetD : a.tmps[d]? = some (a.tmps.getD d undef) := by
      rw [Array.getD_eq_getD_getElem?, Array.getElem?_eq_getElem (by omega)]; rfl
    have hy : yielded ops.toArray a.tmps j = (match a.tmps.getD d undef with | .bool b => some b | _ => none) := by
      have : (ops.toArray[j]?).bind (·.dst) = some d := by
        rw [List.getElem?_toArray, hoj]; exact hdd
      simp only [yielded, this, Option.bind_some, hgetD]
      cases a.tmps.getD d undef <;> rfl
    rw [h3] at hg
    simp only [gd, dsAt_length ops (Nat.le_of_lt hil)] at hg
    rw [revs_get, if_pos (by omega), e1] at hg
    simp only [Region.wanted, h1, hy]
    split at hg
    · rename_i b0 heq
      simp only [Option.some.injEq] at heq
      rw [heq] at hrel
      cases hg
      rw [bool_of hrel]
      rfl
    · rename_i vs heq
      simp only [Option.some.injEq] at heq
      rw [heq] at hrel
      cases hg
      generalize a.tmps.getD d undef = u at hrel
      cases hrel
      rfl
    · cases hg

end
end Go.AB
