/- Own framework, part 22: what comes in, as objects that are only read. -/
import Derived.Test.YtnbamdhmhnhneaaB20
import Derived.ChangeArms
import Derived.ChangeSlices
set_option linter.unusedVariables false
set_option linter.unusedSimpArgs false
namespace Go.AB
open Go.RowKit
variable {P : Program} {W : World}

/-- What reads as a value of a type, out of objects that are only read. -/
def ReadAs (P : Program) (H : AHeap) : Nat → TypeId → List Value → Prop
  | 0, _, _ => False
  | n + 1, t, vs => match P.underlying t with
    | some (.int k) => ∃ m, vs = [.int k m] ∧ (Lit.int k m).wf = true
    | some .bool => ∃ b, vs = [.bool b]
    | some (.slice e) => vs = [SV.nil.v] ∨ ∃ b len cells, vs = [(SV.at b 0 len).v] ∧ H.get b = .ro cells ∧ cells.length = len * P.cellsOf e ∧ len * P.bytesOf e ≤ reachBytes ∧
        ∀ i, i < len → ReadAs P H n e ((cells.drop (i * P.cellsOf e)).take (P.cellsOf e))
    | some (.struct fs) => vs.length = P.cellsOf t ∧ ∀ (i : Nat) (f : Field), fs[i]? = some f → ReadAs P H n f.type ((vs.drop f.offset).take (P.cellsOf f.type))
    | _ => False

/-- Old objects stand. -/
def Stand (H H' : AHeap) : Prop := H.n ≤ H'.n ∧ ∀ b vs, H.get b = .ro vs → H'.get b = .ro vs
theorem Stand.refl (H : AHeap) : Stand H H := ⟨Nat.le_refl _, fun _ _ h => h⟩
theorem Stand.trans {H H' H'' : AHeap} (h : Stand H H') (k : Stand H' H'') : Stand H H'' := ⟨Nat.le_trans h.1 k.1, fun b vs hb => k.2 b vs (h.2 b vs hb)⟩
theorem ReadAs.stand {H H' : AHeap} (hs : Stand H H') : ∀ {n : Nat} {t : TypeId} {vs : List Value}, ReadAs P H n t vs → ReadAs P H' n t vs
  | 0, _, _, h => h
  | n + 1, t, vs, h => by
    unfold ReadAs at h ⊢
    split at h
    · exact h
    · exact h
    · rcases h with h | ⟨b, len, cells, h1, h2, h3, h4, h5⟩
      · exact .inl h
      · exact .inr ⟨b, len, cells, h1, hs.2 _ _ h2, h3, h4, fun i hi => (h5 i hi).stand hs⟩
    · exact ⟨h.1, fun i f hf => (h.2 i f hf).stand hs⟩
    · exact h

/-- A new object that is only read. -/
theorem RelH.addRo {ι : Inj} {H : AHeap} (h : RelH P W ι H W) {i : BI} {vs : List Value} (hi : i.ro = true) (hb : vs = [] ∨ i.cb < W.heap.size)
    (hv : ∀ (j : Nat) (x : Value), vs[j]? = some x → x.oneCell' = true ∧ ∃ y, W.cell? ⟨i.cb, i.d + j, none⟩ = some y ∧ RelV ι x y) :
    RelH P W (ι.put H.n i) (H.alloc (.ro vs)) W ∧ ι.le (ι.put H.n i) ∧ Stand H (H.alloc (.ro vs)) := by
  have hle : ι.le (ι.put H.n i) := h.le_put i
  have hne : ∀ b i', ι b = some i' → b ≠ H.n := fun b i' hb => Nat.ne_of_lt (h.dom b i' hb)
  refine ⟨⟨h.old, fun b i' hb => ?_, fun b i' hbi => ?_, fun b b' i1 i2 h1 h2 o1 o2 hc => ?_⟩, hle, ⟨by simp, fun b ws hb => AHeap.alloc_old hb (by simp)⟩⟩
  · unfold Inj.put at hb
    split at hb
    · subst_vars; simp
    · have := h.dom b i' hb; simp; omega
  · unfold Inj.put at hbi
    split at hbi
    · rename_i hbn
      cases hbi
      subst hbn
      rw [AHeap.alloc_self]
      exact ⟨hb, hi, fun j x hx => let ⟨o, y, hy, r⟩ := hv j x hx; ⟨o, y, hy, r.mono hle⟩⟩
    · rename_i hbn
      rw [AHeap.alloc_ne _ _ hbn]
      exact ObjRel.mono hle (fun _ => rfl) (h.obj b i' hbi)
  · unfold Inj.put at h1 h2
    split at h1
    · rename_i hbn; subst hbn; rw [AHeap.alloc_self] at o1; cases o1
    · rename_i hbn
      split at h2
      · rename_i hbn'; subst hbn'; rw [AHeap.alloc_self] at o2; cases o2
      · rename_i hbn'
        rw [AHeap.alloc_ne _ _ hbn] at o1
        rw [AHeap.alloc_ne _ _ hbn'] at o2
        exact h.inj b b' i1 i2 h1 h2 o1 o2 hc

/-- The fields lie one behind another. -/
def tiles (P : Program) : List Field → Nat → Nat → Prop
  | [], o, e => o = e
  | f :: fs, o, e => f.offset = o ∧ tiles P fs (o + P.cellsOf f.type) e
theorem tiles_le : ∀ {fs : List Field} {o e : Nat}, tiles P fs o e → o ≤ e
  | [], o, e, h => Nat.le_of_eq h
  | f :: fs, o, e, h => by have := tiles_le h.2; omega
/-- Types of numbers, bools, slices and structs. -/
inductive Simple (P : Program) : TypeId → Prop
  | int {t : TypeId} {k : IntKind} (h : P.underlying t = some (.int k)) : Simple P t
  | bool {t : TypeId} (h : P.underlying t = some .bool) : Simple P t
  | slice {t e : TypeId} (h : P.underlying t = some (.slice e)) (hs : 0 < P.cellsOf e) (he : Simple P e) : Simple P t
  | struct {t : TypeId} {fs : Array Field} (h : P.underlying t = some (.struct fs)) (ht : tiles P fs.toList 0 (P.cellsOf t)) (hf : ∀ f ∈ fs.toList, Simple P f.type) : Simple P t

def Trods (P : Program) (W : World) (n : Nat) (t : TypeId) (ds : List Value) : Prop := ∃ (Hh : Type) (enc : TypeId × Value → Hh) (y : DataW Hh × List MemPlace), DataW.trod enc P W 0 (fun _ => true) true n t ds = some y ∧ ∀ w ∈ y.1.weights P t, w ≤ reachBytes
theorem weightsAll_mem {Hh : Type} {e : TypeId} {d : DataW Hh} {w : Nat} : ∀ {l : List (DataW Hh)}, d ∈ l → w ∈ d.weights P e → w ∈ DataW.weightsAll P e l
  | [], h, _ => by cases h
  | x :: l, h, hw => by
    unfold DataW.weightsAll
    rcases List.mem_cons.1 h with rfl | h
    · exact List.mem_append_left _ hw
    · exact List.mem_append_right _ (weightsAll_mem h hw)
theorem weightsEach_mem {Hh : Type} {t : TypeId} {d : DataW Hh} {w : Nat} : ∀ {ts : List TypeId} {l : List (DataW Hh)} {i : Nat}, ts[i]? = some t → l[i]? = some d → w ∈ d.weights P t → w ∈ DataW.weightsEach P ts l
  | [], _, i, h, _, _ => by simp at h
  | _ :: _, [], i, _, h, _ => by simp at h
  | t' :: ts, x :: l, 0, h, hd, hw => by
    unfold DataW.weightsEach
    simp at h hd; subst h; subst hd
    exact List.mem_append_left _ hw
  | t' :: ts, x :: l, i + 1, h, hd, hw => by
    unfold DataW.weightsEach
    exact List.mem_append_right _ (weightsEach_mem (by simpa using h) (by simpa using hd) hw)
structure ReadOut (P : Program) (W : World) (ι : Inj) (H : AHeap) (cs : List Value) (Q : AHeap → List Value → Prop) : Prop where
  out : ∃ ι' H' vs, RelH P W ι' H' W ∧ ι.le ι' ∧ Stand H H' ∧ RelL ι' vs cs ∧ (∀ v ∈ vs, v.oneCell' = true) ∧ Q H' vs

theorem read_fields {n : Nat} {cs : List Value} (hrd : ∀ (t : TypeId) (ds : List Value) (ι : Inj) (H : AHeap), Simple P t → RelH P W ι H W → Trods P W n t ds → ReadOut P W ι H ds fun H' vs => ReadAs P H' n t vs) :
    ∀ (fs : List Field) (o : Nat) (ι : Inj) (H : AHeap), RelH P W ι H W → tiles P fs o cs.length → (∀ f ∈ fs, Simple P f.type) →
      (∀ f ∈ fs, Trods P W n f.type ((cs.drop f.offset).take (P.cellsOf f.type))) →
      ReadOut P W ι H (cs.drop o) fun H' vs => ∀ f ∈ fs, ReadAs P H' n f.type ((vs.drop (f.offset - o)).take (P.cellsOf f.type))
  | [], o, ι, H, hR, ht, _, _ => by
    have : cs.drop o = [] := List.drop_eq_nil_of_le (by have : o = cs.length := ht; omega)
    exact ⟨ι, H, [], hR, Inj.le_refl _, Stand.refl _, by rw [this]; exact RelL.nil, (fun v hv => by cases hv), (fun f hf => by cases hf)⟩
  | f :: fs, o, ι, H, hR, ht, hs, hf => by
    obtain ⟨h1, h2⟩ := ht
    have hle := tiles_le h2
    obtain ⟨ι1, H1, vs1, hR1, hι1, hS1, hL1, ho1, hq1⟩ := (hrd f.type _ ι H (hs f (by simp)) hR (hf f (by simp))).out
    obtain ⟨ι2, H2, vs2, hR2, hι2, hS2, hL2, ho2, hq2⟩ := (read_fields hrd fs _ ι1 H1 hR1 h2 (fun g hg => hs g (by simp [hg])) (fun g hg => hf g (by simp [hg]))).out
    have hl1 : vs1.length = P.cellsOf f.type := by rw [hL1.1]; simp; omega
    refine ⟨ι2, H2, vs1 ++ vs2, hR2, Inj.le_trans hι1 hι2, hS1.trans hS2, ?_, fun v hv => ?_, fun g hg => ?_⟩
    · have : cs.drop o = (cs.drop f.offset).take (P.cellsOf f.type) ++ cs.drop (o + P.cellsOf f.type) := by
        rw [h1, ← List.drop_drop, List.take_append_drop]
      rw [this]
      exact (hL1.mono hι2).append hL2
    · rcases List.mem_append.1 hv with h | h
      · exact ho1 v h
      · exact ho2 v h
    · have hge : ∀ {fs : List Field} {o e : Nat}, tiles P fs o e → ∀ g ∈ fs, o ≤ g.offset := by
        intro fs
        induction fs with
        | nil => intro o e _ g hg; cases hg
        | cons f fs ih =>
          intro o e ht g hg
          rcases List.mem_cons.1 hg with rfl | hg
          · exact Nat.le_of_eq ht.1.symm
          · have := ih ht.2 g hg; omega
      rcases List.mem_cons.1 hg with rfl | hg'
      · rw [h1, Nat.sub_self, List.drop_zero, ← hl1, List.take_left]
        exact hq1.stand hS2
      · have hgo := hge h2 g hg'
        have := hq2 g hg'
        rwa [List.drop_append, List.drop_eq_nil_of_le (by omega), List.nil_append, hl1, Nat.sub_sub]

theorem read_elems {n sz len : Nat} {e : TypeId} {a : Addr} (hz : 0 < sz) (hsz : P.cellsOf e = sz) (hrd : ∀ (ds : List Value) (ι : Inj) (H : AHeap), RelH P W ι H W → Trods P W n e ds → ReadOut P W ι H ds fun H' vs => ReadAs P H' n e vs)
    (hel : ∀ i, i < len → ∃ ds, W.cells? 0 (a.add (i * sz)) sz = some ds ∧ Trods P W n e ds) :
    ∀ (k : Nat) (ι : Inj) (H : AHeap), k ≤ len → RelH P W ι H W → ∃ (ι' : Inj) (H' : AHeap) (cells : List Value), RelH P W ι' H' W ∧ ι.le ι' ∧ Stand H H' ∧ cells.length = k * sz ∧
      (∀ (j : Nat) (x : Value), cells[j]? = some x → x.oneCell' = true ∧ ∃ y, W.cell? (a.add j) = some y ∧ RelV ι' x y) ∧ ∀ i, i < k → ReadAs P H' n e ((cells.drop (i * sz)).take sz)
  | 0, ι, H, _, hR => ⟨ι, H, [], hR, Inj.le_refl _, Stand.refl _, by simp, fun j x hx => by simp at hx, fun i hi => by omega⟩
  | k + 1, ι, H, hk, hR => by
    obtain ⟨ι1, H1, c1, hR1, hι1, hS1, hl1, hc1, hq1⟩ := read_elems hz hsz hrd hel k ι H (by omega) hR
    obtain ⟨ds, hds, hy⟩ := hel k (by omega)
    obtain ⟨ι2, H2, vs, hR2, hι2, hS2, hL2, ho2, hq2⟩ := (hrd ds ι1 H1 hR1 hy).out
    obtain ⟨_, hdl, hdc⟩ := World.cells?_some hds
    have hvl : vs.length = sz := by rw [hL2.1]; exact hdl
    refine ⟨ι2, H2, c1 ++ vs, hR2, Inj.le_trans hι1 hι2, hS1.trans hS2, by rw [List.length_append, hl1, hvl, Nat.add_mul, Nat.one_mul], fun j x hx => ?_, fun i hi => ?_⟩
    · by_cases hj : j < c1.length
      · rw [List.getElem?_append_left hj] at hx
        obtain ⟨o, y, hy, r⟩ := hc1 j x hx
        exact ⟨o, y, hy, r.mono hι2⟩
      · rw [List.getElem?_append_right (by omega)] at hx
        obtain ⟨y, hy, r⟩ := hL2.get hx
        refine ⟨ho2 x (List.mem_of_getElem? hx), y, ?_, r⟩
        have hjl : j - c1.length < sz := by have := (List.getElem?_eq_some_iff.1 hx).1; omega
        have := hdc (j - c1.length) hjl
        rw [hy] at this
        rw [← this]
        congr 1
        rw [show j = k * sz + (j - c1.length) by omega]
        simp only [Addr.add]
        split <;> split <;> split <;> simp_all <;> omega
    · by_cases hik : i < k
      · have h2 : i * sz + sz ≤ c1.length := by
          rw [hl1, show i * sz + sz = (i + 1) * sz by rw [Nat.add_mul, Nat.one_mul]]
          exact Nat.mul_le_mul_right _ hik
        rw [List.drop_append_of_le_length (by omega), List.take_append_of_le_length (by simp; omega)]
        exact (hq1 i hik).stand hS2
      · have : i = k := by omega
        subst this
        rw [← hl1, List.drop_left, ← hvl, List.take_length]
        exact hq2

theorem read_trod : ∀ (n : Nat) (t : TypeId) (cs : List Value) (ι : Inj) (H : AHeap), Simple P t → RelH P W ι H W → Trods P W n t cs →
    ReadOut P W ι H cs fun H' vs => ReadAs P H' n t vs
  | 0, t, cs, ι, H, _, _, ⟨_, _, _, h, _⟩ => by simp [DataW.trod] at h
  | n + 1, t, cs, ι, H, hs, hR, ⟨Hh, enc, x, h, hwt⟩ => by
    cases hs with
    | int hu =>
      rename_i k
      obtain ⟨m, rfl, -, hw⟩ := DataW.trod_int hu h
      exact ⟨ι, H, _, hR, Inj.le_refl _, Stand.refl _, .cons (.int k m) RelL.nil, fun v hv => by simp at hv; subst hv; rfl, by unfold ReadAs; rw [hu]; exact ⟨m, rfl, hw⟩⟩
    | bool hu =>
      obtain ⟨b, rfl, -⟩ := DataW.trod_bool hu h
      exact ⟨ι, H, _, hR, Inj.le_refl _, Stand.refl _, .cons (.bool b) RelL.nil, fun v hv => by simp at hv; subst hv; rfl, by unfold ReadAs; rw [hu]; exact ⟨b, rfl⟩⟩
    | struct hu ht hf =>
      rename_i fs
      obtain ⟨xs, n', hn, rfl, hl, hxl, hx⟩ := DataW.trod_struct hu h
      cases hn
      have hfs : ∀ f ∈ fs.toList, Trods P W n f.type ((cs.drop f.offset).take (P.cellsOf f.type)) := fun f hf => by
        obtain ⟨i, hi, rfl⟩ := List.getElem_of_mem hf
        have hi' : i < fs.size := by simpa using hi
        have := hx i fs.toList[i] (by simp [hi'])
        rw [List.getElem?_eq_getElem (by omega)] at this
        refine ⟨Hh, enc, _, this, fun w hw => hwt w ?_⟩
        simp only [DataW.weights, hu]
        exact weightsEach_mem (i := i) (by simp [hi']) (by simp [show i < xs.length by omega]) hw
      obtain ⟨ι', H', vs, h1, h2, h3, h4, h5, h6⟩ := (read_fields (fun t ds ι H a b c => read_trod n t ds ι H a b c) fs.toList 0 ι H hR (by rw [hl]; exact ht) hf hfs).out
      rw [List.drop_zero] at h4
      refine ⟨ι', H', vs, h1, h2, h3, h4, h5, ?_⟩
      unfold ReadAs; rw [hu]
      refine ⟨by rw [h4.1, hl], fun i f hif => ?_⟩
      have := h6 f (List.mem_of_getElem? (by simpa using hif))
      rwa [Nat.sub_zero] at this
    | slice hu hz he =>
      rename_i e
      rcases DataW.trod_slice hu h with ⟨rfl, -⟩ | ⟨a, len, cap, elems, rest, n', hn, rfl, rfl, -, hlc, hcm, hel, hee, hsp, -⟩
      · exact ⟨ι, H, _, hR, Inj.le_refl _, Stand.refl _, .cons .snil RelL.nil, fun v hv => by simp at hv; subst hv; rfl, by unfold ReadAs; rw [hu]; exact .inl rfl⟩
      · cases hn
        obtain ⟨hrl, hre⟩ := hsp rfl
        have hall : ∀ i, i < cap → ∃ ds, W.cells? 0 (a.add (i * P.cellsOf e)) (P.cellsOf e) = some ds ∧ Trods P W n e ds := fun i hi => by
          by_cases hil : i < len
          · have h1 := hee i hil
            rw [List.getElem?_eq_getElem (by omega), Option.bind_eq_some_iff] at h1
            obtain ⟨ds, h2, h3⟩ := h1
            refine ⟨ds, h2, Hh, enc, _, h3, fun w hw => hwt w ?_⟩
            simp only [DataW.weights, hu]
            exact List.mem_cons_of_mem _ (List.mem_append_left _ (weightsAll_mem (List.mem_map.2 ⟨_, List.getElem_mem _, rfl⟩) hw))
          · have h1 := hre (i - len) (by omega)
            rw [List.getElem?_eq_getElem (by omega), Option.bind_eq_some_iff, show len + (i - len) = i by omega] at h1
            obtain ⟨ds, h2, h3⟩ := h1
            refine ⟨ds, h2, Hh, enc, _, h3, fun w hw => hwt w ?_⟩
            simp only [DataW.weights, hu]
            exact List.mem_cons_of_mem _ (List.mem_append_right _ (weightsAll_mem (List.mem_map.2 ⟨_, List.getElem_mem _, rfl⟩) hw))
        have hbytes : len * P.bytesOf e ≤ reachBytes := by
          have := hwt ((elems.length + rest.length) * P.bytesOf e) (by simp only [DataW.weights, hu]; simp)
          rw [hel] at this
          exact Nat.le_trans (Nat.mul_le_mul_right _ (by omega)) this
        obtain ⟨ι1, H1, cells, hR1, hι1, hS1, hl1, hc1, hq1⟩ := read_elems hz rfl (fun ds ι H b c => read_trod n e ds ι H he b c) (fun i hi => hall i (Nat.lt_of_lt_of_le hi hlc)) len ι H (Nat.le_refl _) hR
        have hspot : 0 < cap → a.spot = none ∧ a.block < W.heap.size := fun hc => by
          obtain ⟨ds, h2, -⟩ := hall 0 hc
          have := (World.cells?_some h2).2.2 0 hz
          have hdl := (World.cells?_some h2).2.1
          rw [List.getElem?_eq_getElem (by omega), Nat.zero_mul] at this
          have e0 : (a.add 0).add 0 = a := by simp [Addr.add]
          rw [e0] at this
          unfold World.cell? at this
          split at this
          · rename_i hh
            refine ⟨?_, (Array.getElem?_eq_some_iff.1 hh).1⟩
            split at this
            · cases this
            · rename_i hsp; simpa using hsp
          · cases this
        have hread : ∀ H2, Stand H1 H2 → H2.get H1.n = .ro cells → ReadAs P H2 (n + 1) t [(SV.at H1.n 0 len).v] := fun H2 hS hg => by
          unfold ReadAs; rw [hu]
          exact .inr ⟨H1.n, len, cells, rfl, hg, hl1, hbytes, fun i hi => (hq1 i hi).stand hS⟩
        have hcell : ∀ (hc : 0 < cap) (j : Nat) (x : Value), cells[j]? = some x → x.oneCell' = true ∧ ∃ y, W.cell? ⟨a.block, a.off + j, none⟩ = some y ∧ RelV ι1 x y := fun hc j x hx => by
          obtain ⟨o, y, hy, r⟩ := hc1 j x hx
          refine ⟨o, y, ?_, r⟩
          rw [← hy]
          have := (hspot hc).1
          congr 1
          cases a
          simp only at this
          subst this
          simp only [Addr.add]
          split
          · subst_vars; rfl
          · rfl
        by_cases hc : 0 < cap
        · obtain ⟨hsp, hbl⟩ := hspot hc
          obtain ⟨g1, g2, g3⟩ := hR1.addRo (i := ⟨a.block, a.off, P.cellsOf e, 0, true⟩) (vs := cells) rfl (.inr hbl) (hcell hc)
          refine ⟨_, _, _, g1, Inj.le_trans hι1 g2, hS1.trans g3, .cons ?_ RelL.nil, fun v hv => by simp at hv; subst hv; rfl, hread _ g3 (AHeap.alloc_self _ _)⟩
          have : a = ⟨a.block, a.off, none⟩ := by cases a; simp only at hsp; subst hsp; rfl
          rw [this]
          exact RelV.slice (i := ⟨a.block, a.off, P.cellsOf e, 0, true⟩) (Inj.put_self _ _ _) hlc (.inl rfl) (.inr (by simp))
        · have hl0 : len = 0 := by omega
          have hc0 : cap = 0 := by omega
          subst hl0; subst hc0
          have hcn : cells = [] := List.length_eq_zero_iff.1 (by rw [hl1]; simp)
          subst hcn
          obtain ⟨g1, g2, g3⟩ := hR1.addRo (i := ⟨0, 0, P.cellsOf e, 0, true⟩) (vs := []) rfl (.inl rfl) (fun j x hx => by simp at hx)
          refine ⟨_, _, _, g1, Inj.le_trans hι1 g2, hS1.trans g3, .cons ?_ RelL.nil, fun v hv => by simp at hv; subst hv; rfl, hread _ g3 (AHeap.alloc_self _ _)⟩
          exact RelV.sany (Inj.put_self _ _ _) rfl
end Go.AB
