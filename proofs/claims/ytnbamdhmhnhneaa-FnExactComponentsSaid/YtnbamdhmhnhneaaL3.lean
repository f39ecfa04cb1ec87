/- Plain law of components: what they are, and that cells on a stack by their order of visit give them. -/
set_option linter.unusedVariables false
set_option linter.unusedSimpArgs false
namespace Go.AB

inductive Rch (E : Nat → Nat → Prop) : Nat → Nat → Prop
  | refl (a : Nat) : Rch E a a
  | step {a b c : Nat} (h : Rch E a b) (e : E b c) : Rch E a c
variable {E : Nat → Nat → Prop} {N : Nat}
theorem Rch.trans {a b c : Nat} (h : Rch E a b) (k : Rch E b c) : Rch E a c := by
  induction k with
  | refl => exact h
  | step _ e ih => exact .step ih e
theorem Rch.edge {a b : Nat} (e : E a b) : Rch E a b := .step (.refl a) e
theorem Rch.closed {T : Nat → Prop} (hT : ∀ u w, T u → E u w → T w) {a b : Nat} (h : Rch E a b) (ha : T a) : T b := by
  induction h with
  | refl => exact ha
  | step _ e ih => exact hT _ _ ih e
def Both (E : Nat → Nat → Prop) (u v : Nat) : Prop := Rch E u v ∧ Rch E v u
theorem Both.refl (u : Nat) : Both E u u := ⟨.refl u, .refl u⟩
theorem Both.symm {u v : Nat} (h : Both E u v) : Both E v u := ⟨h.2, h.1⟩
theorem Both.trans {u v w : Nat} (h : Both E u v) (k : Both E v w) : Both E u w := ⟨h.1.trans k.1, k.2.trans h.2⟩
/-- The least cell of a component. -/
def Least (E : Nat → Nat → Prop) (N v : Nat) (z : Int) : Prop := ∃ r : Nat, z = r ∧ r < N ∧ Both E v r ∧ ∀ u, u < N → Both E v u → r ≤ u
theorem Least.uniq {v : Nat} {z z' : Int} (h : Least E N v z) (h' : Least E N v z') : z = z' := by
  obtain ⟨r, rfl, h1, h2, h3⟩ := h
  obtain ⟨r', rfl, k1, k2, k3⟩ := h'
  have := h3 r' k1 k2
  have := k3 r h1 h2
  omega
structure CompIs (E : Nat → Nat → Prop) (N : Nat) (ou : List Int) : Prop where
  len : ou.length = N
  at' : ∀ v, v < N → Least E N v (ou.getD v 0)

/-- What holds of the cells visited so far: g tells those whose visit goes on. -/
structure TS (E : Nat → Nat → Prop) (N : Nat) (g : Nat → Prop) (ix ou : Nat → Int) (stk : List Nat) (nx : Int) : Prop where
  ixn : ∀ v, v < N → 0 ≤ ix v ∧ ix v < nx
  mem : ∀ v, v ∈ stk ↔ v < N ∧ 0 < ix v ∧ ou v < 0
  inc : stk.Pairwise fun a b => ix a < ix b
  gray : ∀ v, g v → v ∈ stk
  blk : ∀ v w, v < N → 0 < ix v → ¬ g v → E v w → 0 < ix w
  up : ∀ x y, x ∈ stk → y ∈ stk → ix x ≤ ix y → Rch E x y
  dn : ∀ y, y ∈ stk → ∃ x, g x ∧ ix x ≤ ix y ∧ Rch E y x
  fin : ∀ v, v < N → 0 ≤ ou v → 0 < ix v ∧ Least E N v (ou v)
  cls : ∀ v w, v < N → 0 ≤ ou v → E v w → 0 ≤ ou w
  one : ∀ v, v < N → -1 ≤ ou v

/-- What the visit of c leaves. -/
structure TPost (E : Nat → Nat → Prop) (N : Nat) (g : Nat → Prop) (c : Nat) (ix lo ou : Nat → Int) (stk : List Nat) (nx : Int) (ix' lo' ou' : Nat → Int) (s2 : List Nat) (nx' : Int) : Prop where
  wf : TS E N g ix' ou' (stk ++ s2) nx'
  vis : 0 < ix' c
  ixk : ∀ v, v < N → 0 < ix v → ix' v = ix v
  lok : ∀ v, v < N → 0 < ix v → lo' v = lo v
  ouk : ∀ v, v < N → 0 ≤ ou v → ou' v = ou v
  nxk : nx ≤ nx'
  new : ∀ v, v < N → ix v = 0 → 0 < ix' v → nx ≤ ix' v
  low : lo' c ≤ ix' c
  lown : (c ∈ s2 ∧ ∃ y, y ∈ stk ++ s2 ∧ ix' y = lo' c ∧ Rch E c y) ∨ (c ∉ stk ++ s2 ∧ lo' c = ix' c)
  cross : ∀ x y, x ∈ s2 → y ∈ stk → E x y → lo' c ≤ ix y
  s2n : ∀ x, x ∈ s2 → nx ≤ ix' x

/-- What holds within the visit of c, behind the edges to D. -/
structure TLoop (E : Nat → Nat → Prop) (N : Nat) (g : Nat → Prop) (c : Nat) (ix0 lo0 ou0 : Nat → Int) (stk : List Nat) (nx0 : Int) (D : Nat → Prop) (ix lo ou : Nat → Int) (s : List Nat) (nx : Int) : Prop where
  wf : TS E N (fun v => g v ∨ v = c) ix ou (stk ++ c :: s) nx
  ixc : ix c = nx0
  ixk : ∀ v, v < N → 0 < ix0 v → ix v = ix0 v
  lok : ∀ v, v < N → 0 < ix0 v → lo v = lo0 v
  ouk : ∀ v, v < N → 0 ≤ ou0 v → ou v = ou0 v
  nxk : nx0 < nx
  new : ∀ v, v < N → ix0 v = 0 → 0 < ix v → nx0 ≤ ix v
  low : lo c ≤ ix c
  lown : ∃ y, y ∈ stk ++ c :: s ∧ ix y = lo c ∧ Rch E c y
  cross : ∀ x y, x ∈ s → y ∈ stk → E x y → lo c ≤ ix0 y
  dne : ∀ y, D y → y < N ∧ 0 < ix y ∧ (y ∈ stk → lo c ≤ ix0 y)
  sn : ∀ x, x ∈ s → nx0 < ix x

def updI (f : Nat → Int) (c : Nat) (z : Int) : Nat → Int := fun v => if v = c then z else f v
theorem updI_same {f : Nat → Int} {c : Nat} {z : Int} : updI f c z c = z := by simp [updI]
theorem updI_ne {f : Nat → Int} {c v : Nat} {z : Int} (h : v ≠ c) : updI f c z v = f v := by simp [updI, h]

theorem TS.start {g : Nat → Prop} {c : Nat} {ix lo ou : Nat → Int} {stk : List Nat} {nx : Int} (h : TS E N g ix ou stk nx) (hc : c < N) (h0 : ix c = 0) (hou : ou c < 0) (hnx : 0 < nx) (hg : ∀ x, g x → Rch E x c) :
    TLoop E N g c ix lo ou stk nx (fun _ => False) (updI ix c nx) (updI lo c nx) ou [] (nx + 1) := by
  have hne : ∀ v, 0 < ix v → v ≠ c := fun v hv he => by subst he; omega
  have hns : ∀ v, v ∈ stk → v ≠ c := fun v hv => hne v ((h.mem v).1 hv).2.1
  have hcs : c ∉ stk := fun hm => hns c hm rfl
  have hrc : ∀ y, y ∈ stk → Rch E y c := fun y hy => by
    obtain ⟨x, hx, _, hr⟩ := h.dn y hy
    exact hr.trans (hg x hx)
  have hlt : ∀ y, y ∈ stk → ix y < nx := fun y hy => (h.ixn y ((h.mem y).1 hy).1).2
  refine ⟨⟨fun v hv => ?_, fun v => ?_, ?_, fun v hv => ?_, fun v w hv hp hng he => ?_, fun x y hx hy hle => ?_, fun y hy => ?_, fun v hv ho => ?_, h.cls, h.one⟩, updI_same, fun v hv hp => updI_ne (hne v hp), fun v hv hp => updI_ne (hne v hp), fun _ _ _ => rfl, by omega, fun v hv h1 h2 => ?_, by rw [updI_same, updI_same]; omega, ⟨c, by simp, by rw [updI_same, updI_same], .refl c⟩, fun x y hx => by simp at hx, fun y hy => hy.elim, fun x hx => by simp at hx⟩
  · by_cases hvc : v = c
    · subst hvc; rw [updI_same]; omega
    · rw [updI_ne hvc]; have := h.ixn v hv; omega
  · rw [List.mem_append, List.mem_singleton]
    by_cases hvc : v = c
    · subst hvc; rw [updI_same]; exact ⟨fun _ => ⟨hc, by omega, hou⟩, fun _ => .inr rfl⟩
    · rw [updI_ne hvc]
      exact ⟨fun hm => (h.mem v).1 (hm.resolve_right hvc), fun hm => .inl ((h.mem v).2 hm)⟩
  · rw [List.pairwise_append]
    refine ⟨?_, List.pairwise_singleton _ _, fun a ha b hb => ?_⟩
    · exact h.inc.imp_of_mem fun {a b} ha hb hab => by rw [updI_ne (hns a ha), updI_ne (hns b hb)]; exact hab
    · rw [List.mem_singleton] at hb; subst hb
      rw [updI_same, updI_ne (hns a ha)]; exact hlt a ha
  · rw [List.mem_append, List.mem_singleton]
    exact hv.imp (h.gray v) id
  · have hvc : v ≠ c := fun he => hng (.inr he)
    rw [updI_ne hvc] at hp
    have := h.blk v w hv hp (fun hgv => hng (.inl hgv)) he
    by_cases hwc : w = c
    · subst hwc; omega
    · rw [updI_ne hwc]; exact this
  · rw [List.mem_append, List.mem_singleton] at hx hy
    rcases hy with hy | rfl
    · rcases hx with hx | rfl
      · rw [updI_ne (hns x hx), updI_ne (hns y hy)] at hle
        exact h.up x y hx hy hle
      · rw [updI_same, updI_ne (hns y hy)] at hle
        have := hlt y hy; omega
    · rcases hx with hx | rfl
      · exact hrc x hx
      · exact .refl _
  · rw [List.mem_append, List.mem_singleton] at hy
    rcases hy with hy | rfl
    · obtain ⟨x, hx, hle, hr⟩ := h.dn y hy
      exact ⟨x, .inl hx, by rw [updI_ne (hns x (h.gray x hx)), updI_ne (hns y hy)]; exact hle, hr⟩
    · exact ⟨y, .inr rfl, Int.le_refl _, .refl y⟩
  · have := h.fin v hv ho
    rw [updI_ne (hne v this.1)]; exact this
  · by_cases hvc : v = c
    · subst hvc; rw [updI_same]; omega
    · rw [updI_ne hvc] at h2; omega
variable {g : Nat → Prop} {c w : Nat} {ix0 lo0 ou0 ix lo ou ix' lo' ou' : Nat → Int} {stk s s2 : List Nat} {nx0 nx nx' : Int} {D : Nat → Prop}
theorem TLoop.child (hc0 : ix0 c = 0) (hst : ∀ y, y ∈ stk → y < N ∧ 0 < ix0 y) (h : TLoop E N g c ix0 lo0 ou0 stk nx0 D ix lo ou s nx) (he : E c w) (hw : w < N) (hw0 : ix w = 0)
    (k : TPost E N (fun v => g v ∨ v = c) w ix lo ou (stk ++ c :: s) nx ix' lo' ou' s2 nx') :
    TLoop E N g c ix0 lo0 ou0 stk nx0 (fun y => D y ∨ y = w) ix' (updI lo' c (min (lo' c) (lo' w))) ou' (s ++ s2) nx' := by
  have happ : (stk ++ c :: s) ++ s2 = stk ++ c :: (s ++ s2) := by simp
  have hcm : c ∈ stk ++ c :: s := by simp
  obtain ⟨hcN, hcp, -⟩ := (h.wf.mem c).1 hcm
  have hcx := k.ixk c hcN hcp
  have hcl := k.lok c hcN hcp
  have hcn := (h.wf.ixn c hcN).2
  have hnn := k.nxk
  have hnx := h.nxk
  have hlow := h.low
  have hmin : min (lo' c) (lo' w) ≤ lo c := by rw [← hcl]; exact Int.min_le_left _ _
  refine ⟨by rw [← happ]; exact k.wf, by rw [hcx]; exact h.ixc, fun v hv hp => ?_, fun v hv hp => ?_, fun v hv ho => ?_, by omega, fun v hv h1 h2 => ?_, ?_, ?_, fun x y hx hy hxy => ?_, fun y hy => ?_, fun x hx => ?_⟩
  · rw [k.ixk v hv (by rw [h.ixk v hv hp]; exact hp), h.ixk v hv hp]
  · have : v ≠ c := fun hh => by subst hh; omega
    rw [updI_ne this, k.lok v hv (by rw [h.ixk v hv hp]; exact hp), h.lok v hv hp]
  · rw [k.ouk v hv (by rw [h.ouk v hv ho]; exact ho), h.ouk v hv ho]
  · have hn := h.wf.ixn v hv
    by_cases hp : 0 < ix v
    · rw [k.ixk v hv hp]; exact h.new v hv h1 hp
    · have := k.new v hv (by omega) h2; omega
  · rw [updI_same, hcx]; omega
  · rw [updI_same, ← happ]
    rcases Int.le_total (lo' c) (lo' w) with hle | hle
    · rw [Int.min_eq_left hle, hcl]
      obtain ⟨y, h1, h2, h3⟩ := h.lown
      obtain ⟨hyN, hyp, -⟩ := (h.wf.mem y).1 h1
      exact ⟨y, List.mem_append_left _ h1, by rw [k.ixk y hyN hyp]; exact h2, h3⟩
    · rw [Int.min_eq_right hle]
      rcases k.lown with ⟨-, y, h1, h2, h3⟩ | ⟨-, h2⟩
      · exact ⟨y, h1, h2, (Rch.edge he).trans h3⟩
      · have := k.new w hw hw0 k.vis
        omega
  · rw [updI_same]
    obtain ⟨hyN, hyp⟩ := hst y hy
    rcases List.mem_append.1 hx with hx | hx
    · have := h.cross x y hx hy hxy; omega
    · have := k.cross x y hx (List.mem_append_left _ hy) hxy
      rw [h.ixk y hyN hyp] at this
      have := Int.min_le_right (lo' c) (lo' w)
      omega
  · rw [updI_same]
    rcases hy with hy | rfl
    · obtain ⟨h1, h2, h3⟩ := h.dne y hy
      exact ⟨h1, by rw [k.ixk y h1 h2]; exact h2, fun hm => by have := h3 hm; omega⟩
    · refine ⟨hw, k.vis, fun hm => ?_⟩
      obtain ⟨h1, h2⟩ := hst y hm
      have := h.ixk y h1 h2; omega
  · rcases List.mem_append.1 hx with hx | hx
    · obtain ⟨h1, h2, -⟩ := (h.wf.mem x).1 (by simp [hx])
      rw [k.ixk x h1 h2]; exact h.sn x hx
    · have := k.s2n x hx; omega
theorem TLoop.back (hc0 : ix0 c = 0) (hst : ∀ y, y ∈ stk → y < N ∧ 0 < ix0 y) (h : TLoop E N g c ix0 lo0 ou0 stk nx0 D ix lo ou s nx) (he : E c w) (hw : w < N) (hwp : 0 < ix w) (hwo : ou w < 0) :
    TLoop E N g c ix0 lo0 ou0 stk nx0 (fun y => D y ∨ y = w) ix (updI lo c (min (lo c) (ix w))) ou s nx := by
  have hlow := h.low
  have hmin := Int.min_le_left (lo c) (ix w)
  refine ⟨h.wf, h.ixc, h.ixk, fun v hv hp => ?_, h.ouk, h.nxk, h.new, ?_, ?_, fun x y hx hy hxy => ?_, fun y hy => ?_, h.sn⟩
  · have : v ≠ c := fun hh => by subst hh; omega
    rw [updI_ne this]; exact h.lok v hv hp
  · rw [updI_same]; omega
  · rw [updI_same]
    rcases Int.le_total (lo c) (ix w) with hle | hle
    · rw [Int.min_eq_left hle]; exact h.lown
    · rw [Int.min_eq_right hle]
      exact ⟨w, (h.wf.mem w).2 ⟨hw, hwp, hwo⟩, rfl, Rch.edge he⟩
  · rw [updI_same]; have := h.cross x y hx hy hxy; omega
  · rw [updI_same]
    rcases hy with hy | rfl
    · obtain ⟨h1, h2, h3⟩ := h.dne y hy
      exact ⟨h1, h2, fun hm => by have := h3 hm; omega⟩
    · refine ⟨hw, hwp, fun hm => ?_⟩
      obtain ⟨h1, h2⟩ := hst y hm
      rw [h.ixk y h1 h2]; exact Int.min_le_right _ _
theorem TLoop.over (h : TLoop E N g c ix0 lo0 ou0 stk nx0 D ix lo ou s nx) (hw : w < N) (hwp : 0 < ix w) (hwo : 0 ≤ ou w) :
    TLoop E N g c ix0 lo0 ou0 stk nx0 (fun y => D y ∨ y = w) ix lo ou s nx := by
  refine ⟨h.wf, h.ixc, h.ixk, h.lok, h.ouk, h.nxk, h.new, h.low, h.lown, h.cross, fun y hy => ?_, h.sn⟩
  rcases hy with hy | rfl
  · exact h.dne y hy
  · refine ⟨hw, hwp, fun hm => ?_⟩
    have := ((h.wf.mem y).1 (List.mem_append_left _ hm)).2.2
    omega
theorem inc_split (h : TLoop E N g c ix0 lo0 ou0 stk nx0 D ix lo ou s nx) : (∀ a, a ∈ stk → ix a < nx0) ∧ ∀ a, a ∈ c :: s → nx0 ≤ ix a := by
  have hp := h.wf.inc
  rw [List.pairwise_append] at hp
  refine ⟨fun a ha => ?_, fun a ha => ?_⟩
  · rw [← h.ixc]; exact hp.2.2 a ha c (by simp)
  · rcases List.mem_cons.1 ha with rfl | ha
    · rw [h.ixc]; exact Int.le_refl _
    · have := h.sn a ha; omega
/-- The visit ends, c stays on the stack. -/
theorem TLoop.keep (hst : ∀ y, y ∈ stk → y < N ∧ 0 < ix0 y) (hg : ∀ v, g v → v ∈ stk) (h : TLoop E N g c ix0 lo0 ou0 stk nx0 D ix lo ou s nx) (hall : ∀ w, E c w → D w) (hne : lo c ≠ ix c) :
    TPost E N g c ix0 lo0 ou0 stk nx0 ix lo ou (c :: s) nx := by
  obtain ⟨i1, i2⟩ := inc_split h
  have hcm : c ∈ stk ++ c :: s := by simp
  obtain ⟨hcN, hcp, hco⟩ := (h.wf.mem c).1 hcm
  have hlow := h.low
  have hix := h.ixc
  obtain ⟨y0, hy0, hy1, hy2⟩ := h.lown
  have hy0s : y0 ∈ stk := by
    rcases List.mem_append.1 hy0 with hm | hm
    · exact hm
    · have := i2 y0 hm; omega
  obtain ⟨z, hz1, hz2, hz3⟩ := h.wf.dn y0 hy0
  have hzg : g z := by
    rcases hz1 with hz1 | rfl
    · exact hz1
    · omega
  refine ⟨⟨h.wf.ixn, h.wf.mem, h.wf.inc, fun v hv => List.mem_append_left _ (hg v hv), fun v w hv hp hng he => ?_, h.wf.up, fun y hy => ?_, h.wf.fin, h.wf.cls, h.wf.one⟩, hcp, h.ixk, h.lok, h.ouk, Int.le_of_lt h.nxk, h.new, hlow, .inl ⟨by simp, y0, hy0, hy1, hy2⟩, fun x y hx hy hxy => ?_, fun x hx => i2 x hx⟩
  · by_cases hvc : v = c
    · subst hvc; exact (h.dne w (hall w he)).2.1
    · exact h.wf.blk v w hv hp (fun hh => hh.elim hng hvc) he
  · obtain ⟨x, hx1, hx2, hx3⟩ := h.wf.dn y hy
    rcases hx1 with hx1 | rfl
    · exact ⟨x, hx1, hx2, hx3⟩
    · exact ⟨z, hzg, by omega, (hx3.trans hy2).trans hz3⟩
  · rcases List.mem_cons.1 hx with rfl | hx
    · exact (h.dne y (hall y hxy)).2.2 hy
    · exact h.cross x y hx hy hxy
/-- The visit ends, c and what is above it are a component. -/
theorem TLoop.pop (hE : ∀ u v, E u v → u < N ∧ v < N) (hst : ∀ y, y ∈ stk → y < N ∧ 0 < ix0 y) (hg : ∀ v, g v → v ∈ stk) (h : TLoop E N g c ix0 lo0 ou0 stk nx0 D ix lo ou s nx) (hall : ∀ w, E c w → D w) (heq : lo c = ix c)
    {m : Nat} (hm1 : m ∈ c :: s) (hm2 : ∀ x, x ∈ c :: s → m ≤ x) (hou : ∀ v, v < N → ou' v = if v ∈ c :: s then (m : Int) else ou v) :
    TPost E N g c ix0 lo0 ou0 stk nx0 ix lo ou' [] nx := by
  obtain ⟨i1, i2⟩ := inc_split h
  have hcm : c ∈ stk ++ c :: s := by simp
  obtain ⟨hcN, hcp, hco⟩ := (h.wf.mem c).1 hcm
  have hix := h.ixc
  have hsm : ∀ x, x ∈ c :: s → x < N ∧ 0 < ix x ∧ ou x < 0 := fun x hx => (h.wf.mem x).1 (List.mem_append_right _ hx)
  -- what is above, and what is done, is closed
  have hdone : ∀ u, u ∈ c :: s → ∀ w, E u w → w ∈ c :: s ∨ (0 ≤ ou w ∧ w < N) := fun u hu w he => by
    have hwN := (hE u w he).2
    have hwp : 0 < ix w := by
      by_cases huc : u = c
      · subst huc; exact (h.dne w (hall w he)).2.1
      · refine h.wf.blk u w (hsm u hu).1 (hsm u hu).2.1 (fun hh => ?_) he
        rcases hh with hh | hh
        · have h1 := i1 u (hg u hh); have h2 := i2 u hu; omega
        · exact huc hh
    by_cases hwo : 0 ≤ ou w
    · exact .inr ⟨hwo, hwN⟩
    · have hwm := (h.wf.mem w).2 ⟨hwN, hwp, by omega⟩
      rcases List.mem_append.1 hwm with hws | hws
      · exfalso
        have h1 := i1 w hws
        have h2 : lo c ≤ ix0 w := by
          rcases List.mem_cons.1 hu with rfl | hu
          · exact (h.dne w (hall w he)).2.2 hws
          · exact h.cross u w hu hws he
        have := h.ixk w (hst w hws).1 (hst w hws).2
        omega
      · exact .inl hws
  have hclosed : ∀ u w, (u ∈ c :: s ∨ (0 ≤ ou u ∧ u < N)) → E u w → (w ∈ c :: s ∨ (0 ≤ ou w ∧ w < N)) := fun u w hu he => by
    rcases hu with hu | ⟨hu, huN⟩
    · exact hdone u hu w he
    · exact .inr ⟨h.wf.cls u w huN hu he, (hE u w he).2⟩
  have hcr : ∀ y, y ∈ c :: s → Both E c y := fun y hy => by
    refine ⟨h.wf.up c y hcm (List.mem_append_right _ hy) (by rw [hix]; exact i2 y hy), ?_⟩
    obtain ⟨z, hz1, hz2, hz3⟩ := h.wf.dn y (List.mem_append_right _ hy)
    rcases hz1 with hz1 | rfl
    · exfalso
      have hzs := hg z hz1
      have h1 := i1 z hzs
      rcases hz3.closed hclosed (.inl hy) with hzz | ⟨hzz, _⟩
      · have := i2 z hzz; omega
      · have := ((h.wf.mem z).1 (List.mem_append_left _ hzs)).2.2; omega
    · exact hz3
  have hall2 : ∀ u, u < N → Both E c u → u ∈ c :: s := fun u hu hb => by
    rcases hb.1.closed hclosed (.inl (by simp)) with h1 | ⟨h1, _⟩
    · exact h1
    · exfalso
      have : 0 ≤ ou c ∧ c < N := hb.2.closed (T := fun v => 0 ≤ ou v ∧ v < N) (fun a b ha hab => ⟨h.wf.cls a b ha.2 ha.1 hab, (hE a b hab).2⟩) ⟨h1, hu⟩
      omega
  have hnot : ∀ v, v ∈ stk → v ∉ c :: s := fun v hv hv2 => by have := i1 v hv; have := i2 v hv2; omega
  have hin : ∀ v, v < N → v ∈ c :: s → ou' v = m := fun v hv hm => by rw [hou v hv, if_pos hm]
  have hout : ∀ v, v < N → v ∉ c :: s → ou' v = ou v := fun v hv hm => by rw [hou v hv, if_neg hm]
  refine ⟨⟨h.wf.ixn, fun v => ?_, ?_, fun v hv => ?_, fun v w hv hp hng he => ?_, fun x y hx hy => ?_, fun y hy => ?_, fun v hv ho => ?_, fun v w hv ho he => ?_, fun v hv => ?_⟩, hcp, h.ixk, h.lok, fun v hv ho => ?_, Int.le_of_lt h.nxk, h.new, h.low, .inr ⟨?_, heq⟩, fun x y hx => by simp at hx, fun x hx => by simp at hx⟩
  · rw [List.append_nil]
    constructor
    · intro hv
      obtain ⟨h1, h2, h3⟩ := (h.wf.mem v).1 (List.mem_append_left _ hv)
      exact ⟨h1, h2, by rw [hout v h1 (hnot v hv)]; exact h3⟩
    · rintro ⟨h1, h2, h3⟩
      by_cases hvm : v ∈ c :: s
      · rw [hin v h1 hvm] at h3; omega
      · rw [hout v h1 hvm] at h3
        rcases List.mem_append.1 ((h.wf.mem v).2 ⟨h1, h2, h3⟩) with h4 | h4
        · exact h4
        · exact absurd h4 hvm
  · rw [List.append_nil]; have := h.wf.inc; rw [List.pairwise_append] at this; exact this.1
  · rw [List.append_nil]; exact hg v hv
  · by_cases hvc : v = c
    · subst hvc; exact (h.dne w (hall w he)).2.1
    · exact h.wf.blk v w hv hp (fun hh => hh.elim hng hvc) he
  · rw [List.append_nil] at hx hy
    exact h.wf.up x y (List.mem_append_left _ hx) (List.mem_append_left _ hy)
  · rw [List.append_nil] at hy
    obtain ⟨x, hx1, hx2, hx3⟩ := h.wf.dn y (List.mem_append_left _ hy)
    rcases hx1 with hx1 | rfl
    · exact ⟨x, hx1, hx2, hx3⟩
    · have := i1 y hy; omega
  · by_cases hvm : v ∈ c :: s
    · rw [hin v hv hvm]
      have hcv := hcr v hvm
      exact ⟨(hsm v hvm).2.1, m, rfl, (hsm m hm1).1, hcv.symm.trans (hcr m hm1), fun u hu hb => hm2 u (hall2 u hu (hcv.trans hb))⟩
    · rw [hout v hv hvm] at ho ⊢
      exact h.wf.fin v hv ho
  · have hwN := (hE v w he).2
    have hvT : v ∈ c :: s ∨ (0 ≤ ou v ∧ v < N) := by
      by_cases hvm : v ∈ c :: s
      · exact .inl hvm
      · rw [hout v hv hvm] at ho; exact .inr ⟨ho, hv⟩
    rcases hclosed v w hvT he with hwm | ⟨hwo, _⟩
    · rw [hin w hwN hwm]; omega
    · by_cases hwm : w ∈ c :: s
      · rw [hin w hwN hwm]; omega
      · rw [hout w hwN hwm]; exact hwo
  · by_cases hvm : v ∈ c :: s
    · rw [hin v hv hvm]; omega
    · rw [hout v hv hvm]; exact h.wf.one v hv
  · have hvm : v ∉ c :: s := fun hm => by
      have h1 := (hsm v hm).2.2
      have h2 := h.ouk v hv ho
      omega
    rw [hout v hv hvm]; exact h.ouk v hv ho
  · rw [List.append_nil]; intro hcs; have := i1 c hcs; omega
/-- All is visited: all is done. -/
theorem TS.done {os : List Int} (h : TS E N (fun _ => False) ix (fun v => os.getD v 0) stk nx) (hl : os.length = N) (hv : ∀ v, v < N → 0 < ix v) : CompIs E N os := by
  refine ⟨hl, fun v hvN => ?_⟩
  by_cases ho : 0 ≤ os.getD v 0
  · exact (h.fin v hvN ho).2
  · obtain ⟨x, hx, _⟩ := h.dn v ((h.mem v).2 ⟨hvN, hv v hvN, by omega⟩)
    exact hx.elim
end Go.AB
