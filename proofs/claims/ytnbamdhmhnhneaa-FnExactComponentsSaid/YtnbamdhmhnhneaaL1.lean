/- Plain law of routes: distances and hops, that there is one answer alone, and the steps of both ways to find it. -/
set_option linter.unusedVariables false
set_option linter.unusedSimpArgs false
namespace Go.AB

structure E4 where
  f : Int
  t : Int
  d : Int
  c : Int
  deriving DecidableEq

/-- An element of a list of numbers. -/
abbrev gi (xs : List Int) (j : Int) : Int := xs.getD j.toNat 0
theorem getD_set {xs : List Int} {i j : Nat} {n d : Int} (h : i < xs.length) : (xs.set i n).getD j d = if i = j then n else xs.getD j d := by
  simp only [List.getD_eq_getElem?_getD, List.getElem?_set]
  split
  · subst_vars; simp [h]
  · rfl
theorem getD_ext {xs ys : List Int} (hl : xs.length = ys.length) (h : ∀ j, j < xs.length → xs.getD j 0 = ys.getD j 0) : xs = ys :=
  List.ext_getElem hl fun j h1 h2 => by
    have := h j (by omega)
    simpa [List.getD_eq_getElem?_getD, h1, h2] using this

structure EsOk (es : List E4) (N : Nat) : Prop where
  f : ∀ e ∈ es, 0 ≤ e.f ∧ e.f < N
  t : ∀ e ∈ es, 0 ≤ e.t ∧ e.t < N
  d : ∀ e ∈ es, 0 ≤ e.d ∧ e.d ≤ 3
  c : ∀ e ∈ es, 1 ≤ e.c ∧ e.c ≤ 9

structure DistOk (es : List E4) (N t : Nat) (ds : List Int) : Prop where
  len : ds.length = N
  tgt : ds.getD t 0 = 0
  lo : ∀ u, u < N → -1 ≤ ds.getD u 0
  edge : ∀ e ∈ es, 0 ≤ gi ds e.t → 0 ≤ gi ds e.f ∧ gi ds e.f ≤ gi ds e.t + e.c
  way : ∀ u, u < N → u ≠ t → 0 ≤ ds.getD u 0 → ∃ e ∈ es, e.f = u ∧ 0 ≤ gi ds e.t ∧ ds.getD u 0 = gi ds e.t + e.c

theorem DistOk.le {es : List E4} {N t : Nat} {ds ds' : List Int} (ok : EsOk es N) (ht : t < N) (h : DistOk es N t ds) (h' : DistOk es N t ds') :
    ∀ n : Nat, ∀ u, u < N → ds.getD u 0 = n → 0 ≤ ds'.getD u 0 ∧ ds'.getD u 0 ≤ n := by
  intro n
  induction n using Nat.strongRecOn with
  | ind n ih =>
    intro u hu hd
    by_cases hut : u = t
    · subst hut; have := h'.tgt; omega
    · obtain ⟨e, he, hf, h0, h1⟩ := h.way u hu hut (by omega)
      have hc := ok.c e he
      have ht' := ok.t e he
      simp only [gi] at h0 h1
      have := ih (n - e.c.toNat) (by omega) e.t.toNat (by omega) (by omega)
      have h3 := h'.edge e he this.1
      rw [hf] at h3
      simp only [gi, Int.toNat_natCast] at h3
      omega

theorem DistOk.uniq {es : List E4} {N t : Nat} {ds ds' : List Int} (ok : EsOk es N) (ht : t < N) (h : DistOk es N t ds) (h' : DistOk es N t ds') : ds = ds' := by
  refine getD_ext (by rw [h.len, h'.len]) fun j hj => ?_
  rw [h.len] at hj
  have a := h.lo j hj
  have b := h'.lo j hj
  by_cases h1 : 0 ≤ ds.getD j 0
  · have h2 := DistOk.le ok ht h h' (ds.getD j 0).toNat j hj (by omega)
    have h3 := DistOk.le ok ht h' h (ds'.getD j 0).toNat j hj (by omega)
    omega
  · by_cases h2 : 0 ≤ ds'.getD j 0
    · have h3 := DistOk.le ok ht h' h (ds'.getD j 0).toNat j hj (by omega)
      omega
    · omega

/-! ### Counting and weighing -/
def cnt (ds : List Int) : Nat := ds.countP (fun d => decide (0 ≤ d))
theorem cnt_le (ds : List Int) : cnt ds ≤ ds.length := List.countP_le_length
theorem cnt_set : ∀ {ds : List Int} {i : Nat} {v : Int}, i < ds.length → 0 ≤ v → cnt (ds.set i v) = cnt ds + (if 0 ≤ ds.getD i 0 then 0 else 1)
  | [], i, v, h, hv => by simp at h
  | d :: ds, 0, v, h, hv => by
    simp only [cnt, List.set_cons_zero, List.countP_cons, List.getD_cons_zero, hv, decide_true, if_true]
    by_cases hd : 0 ≤ d <;> simp [hd]
  | d :: ds, i + 1, v, h, hv => by
    have := cnt_set (ds := ds) (i := i) (v := v) (by simpa using h) hv
    simp only [cnt, List.set_cons_succ, List.countP_cons, List.getD_cons_succ] at this ⊢
    omega
def wt (d : Int) : Nat := if d < 0 then 20000 else d.toNat
def mu (ds : List Int) : Nat := (ds.map wt).sum
theorem mu_set : ∀ {ds : List Int} {i : Nat} {v : Int}, i < ds.length → wt v < wt (ds.getD i 0) → mu (ds.set i v) < mu ds
  | [], i, v, h, hv => by simp at h
  | d :: ds, 0, v, h, hv => by
    simp only [mu, List.set_cons_zero, List.map_cons, List.sum_cons, List.getD_cons_zero] at hv ⊢
    omega
  | d :: ds, i + 1, v, h, hv => by
    have := mu_set (ds := ds) (i := i) (v := v) (by simpa using h) (by simpa using hv)
    simp only [mu, List.set_cons_succ, List.map_cons, List.sum_cons] at this ⊢
    omega

/-! ### Distances that fall along edges -/
structure Fall (es : List E4) (N t : Nat) (ds : List Int) : Prop where
  len : ds.length = N
  tgt : ds.getD t 0 = 0
  lo : ∀ u, u < N → -1 ≤ ds.getD u 0
  hi : ∀ u, u < N → ds.getD u 0 ≤ 9 * cnt ds
  way : ∀ u, u < N → u ≠ t → 0 ≤ ds.getD u 0 → ∃ e ∈ es, e.f = u ∧ 0 ≤ gi ds e.t ∧ gi ds e.t + e.c ≤ ds.getD u 0
def calm (ds : List Int) (e : E4) : Prop := 0 ≤ gi ds e.t → 0 ≤ gi ds e.f ∧ gi ds e.f ≤ gi ds e.t + e.c
theorem Fall.done {es : List E4} {N t : Nat} {ds : List Int} (h : Fall es N t ds) (hc : ∀ e ∈ es, calm ds e) : DistOk es N t ds :=
  ⟨h.len, h.tgt, h.lo, hc, fun u hu hut h0 => by
    obtain ⟨e, he, hf, h1, h2⟩ := h.way u hu hut h0
    have h3 := hc e he h1
    rw [hf] at h3
    simp only [gi, Int.toNat_natCast] at h1 h2 h3 ⊢
    exact ⟨e, he, hf, h1, by omega⟩⟩
theorem Fall.begin {es : List E4} {N t : Nat} {ds : List Int} (ht : t < N) (hl : ds.length = N) (h0 : ∀ u, u < N → ds.getD u 0 = if u = t then 0 else -1) : Fall es N t ds := by
  refine ⟨hl, by rw [h0 t ht]; simp, fun u hu => ?_, fun u hu => ?_, fun u hu hut h => ?_⟩
  · rw [h0 u hu]; split <;> omega
  · rw [h0 u hu]; split <;> omega
  · rw [h0 u hu, if_neg hut] at h; omega
theorem Fall.set {es : List E4} {N t : Nat} {ds : List Int} (ok : EsOk es N) (hN : N ≤ 1600) (h : Fall es N t ds) {e : E4} (he : e ∈ es) (h0 : 0 ≤ gi ds e.t) (h1 : gi ds e.f < 0 ∨ gi ds e.t + e.c < gi ds e.f) :
    Fall es N t (ds.set e.f.toNat (gi ds e.t + e.c)) ∧ mu (ds.set e.f.toNat (gi ds e.t + e.c)) < mu ds := by
  have hf := ok.f e he
  have ht := ok.t e he
  have hc := ok.c e he
  have hfl : e.f.toNat < ds.length := by rw [h.len]; omega
  have hcnt := cnt_set (v := gi ds e.t + e.c) hfl (by omega)
  have hcl := cnt_le ds
  have hhi := h.hi e.t.toNat (by omega)
  rw [h.len] at hcl
  have hne : e.f.toNat ≠ e.t.toNat := fun hh => by simp only [gi, hh] at h0 h1; omega
  have hnt : e.f.toNat ≠ t := fun hh => by have := h.tgt; simp only [gi, hh] at h0 h1; omega
  have hlo := h.lo e.f.toNat (by omega)
  have hhif := h.hi e.f.toNat (by omega)
  simp only [gi] at h0 h1 hcnt ⊢
  refine ⟨⟨by simp [h.len], ?_, fun u hu => ?_, fun u hu => ?_, fun u hu hut hd => ?_⟩, mu_set hfl ?_⟩
  · rw [getD_set hfl, if_neg hnt]; exact h.tgt
  · rw [getD_set hfl]; split
    · omega
    · exact h.lo u hu
  · have hu' := h.hi u hu
    rw [getD_set hfl]; split
    · split at hcnt <;> omega
    · split at hcnt <;> omega
  · rw [getD_set hfl] at hd ⊢
    split at hd
    · rename_i hfu
      rw [if_pos hfu]
      refine ⟨e, he, by omega, ?_, ?_⟩
      · simp only [gi]; rw [getD_set hfl, if_neg hne]; exact h0
      · simp only [gi]; rw [getD_set hfl, if_neg hne]; omega
    · rename_i hfu
      rw [if_neg hfu]
      obtain ⟨e', he', hf', h2, h3⟩ := h.way u hu hut hd
      simp only [gi] at h2 h3
      refine ⟨e', he', hf', ?_, ?_⟩
      · simp only [gi]; rw [getD_set hfl]; split
        · omega
        · exact h2
      · simp only [gi]; rw [getD_set hfl]; split
        · rename_i hq; rw [← hq] at h2 h3; omega
        · exact h3
  · have h9 : (9 : Int) * cnt ds ≤ 14400 := by omega
    unfold wt
    rw [if_neg (by omega)]
    split
    · omega
    · omega

/-! ### Hops -/
def good (t : Nat) (ds : List Int) (u : Nat) (e : E4) : Prop := e.f = u ∧ u ≠ t ∧ 0 ≤ gi ds e.t ∧ gi ds e.t + e.c = ds.getD u 0
structure HopOk (es : List E4) (N t : Nat) (ds hs : List Int) : Prop where
  len : hs.length = N
  hop : ∀ u, u < N → (hs.getD u 0 = -1 ∧ ∀ e ∈ es, ¬ good t ds u e) ∨ ∃ e ∈ es, good t ds u e ∧ hs.getD u 0 = e.d ∧ ∀ e' ∈ es, good t ds u e' → e.d ≤ e'.d
theorem HopOk.uniq {es : List E4} {N t : Nat} {ds hs hs' : List Int} (h : HopOk es N t ds hs) (h' : HopOk es N t ds hs') : hs = hs' := by
  refine getD_ext (by rw [h.len, h'.len]) fun u hu => ?_
  rw [h.len] at hu
  rcases h.hop u hu with ⟨h1, h2⟩ | ⟨e, he, h1, h2, h3⟩ <;> rcases h'.hop u hu with ⟨k1, k2⟩ | ⟨e', he', k1, k2, k3⟩
  · omega
  · exact absurd k1 (h2 e' he')
  · exact absurd h1 (k2 e he)
  · have := h3 e' he' k1; have := k3 e he h1; omega
theorem HopOk.nil {N t : Nat} {ds hs : List Int} (hl : hs.length = N) (h : ∀ u, u < N → hs.getD u 0 = -1) : HopOk [] N t ds hs :=
  ⟨hl, fun u hu => .inl ⟨h u hu, fun e he => by simp at he⟩⟩
theorem HopOk.skip {es : List E4} {N t : Nat} {ds hs : List Int} {e : E4} (h : HopOk es N t ds hs) (hg : ∀ u, ¬ good t ds u e) : HopOk (es ++ [e]) N t ds hs := by
  refine ⟨h.len, fun u hu => ?_⟩
  rcases h.hop u hu with ⟨h1, h2⟩ | ⟨e1, he, h1, h2, h3⟩
  · exact .inl ⟨h1, fun e' he' => by
      rcases List.mem_append.1 he' with h4 | h4
      · exact h2 e' h4
      · simp at h4; subst h4; exact hg u⟩
  · exact .inr ⟨e1, List.mem_append_left _ he, h1, h2, fun e' he' hg' => by
      rcases List.mem_append.1 he' with h4 | h4
      · exact h3 e' h4 hg'
      · simp at h4; subst h4; exact absurd hg' (hg u)⟩
theorem HopOk.keep {es : List E4} {N t : Nat} {ds hs : List Int} {e : E4} (h : HopOk es N t ds hs) (k0 : 0 ≤ gi hs e.f) (k1 : gi hs e.f ≤ e.d) : HopOk (es ++ [e]) N t ds hs := by
  refine ⟨h.len, fun u hu => ?_⟩
  rcases h.hop u hu with ⟨h1, h2⟩ | ⟨e1, he, h1, h2, h3⟩
  · refine .inl ⟨h1, fun e' he' hg => ?_⟩
    rcases List.mem_append.1 he' with h4 | h4
    · exact h2 e' h4 hg
    · simp at h4; subst h4
      have := hg.1
      simp only [gi, this, Int.toNat_natCast] at k0; omega
  · refine .inr ⟨e1, List.mem_append_left _ he, h1, h2, fun e' he' hg' => ?_⟩
    rcases List.mem_append.1 he' with h4 | h4
    · exact h3 e' h4 hg'
    · simp at h4; subst h4
      have := hg'.1
      simp only [gi, this, Int.toNat_natCast] at k1; omega
theorem HopOk.take {es : List E4} {N t : Nat} {ds hs : List Int} {e : E4} (h : HopOk es N t ds hs) (hes : ∀ e ∈ es, 0 ≤ e.d) (hf : 0 ≤ e.f ∧ e.f < N) (hd : 0 ≤ e.d) (hg : good t ds e.f.toNat e) (h1 : gi hs e.f < 0 ∨ e.d < gi hs e.f) : HopOk (es ++ [e]) N t ds (hs.set e.f.toNat e.d) := by
  have hfl : e.f.toNat < hs.length := by rw [h.len]; omega
  refine ⟨by simp [h.len], fun u hu => ?_⟩
  rw [getD_set hfl]
  by_cases hfu : e.f.toNat = u
  · subst hfu
    simp only [if_true]
    refine .inr ⟨e, by simp, hg, rfl, fun e' he' hg' => ?_⟩
    rcases List.mem_append.1 he' with h4 | h4
    · simp only [gi] at h1
      rcases h.hop _ hu with ⟨h1, h2⟩ | ⟨e1, he, k1, k2, k3⟩
      · exact absurd hg' (h2 e' h4)
      · have := k3 e' h4 hg'
        have := hes e1 he
        omega
    · simp at h4; subst h4; exact Int.le_refl _
  · simp only [if_neg hfu]
    rcases h.hop u hu with ⟨h1, h2⟩ | ⟨e1, he, h1, h2, h3⟩
    · exact .inl ⟨h1, fun e' he' hg' => by
        rcases List.mem_append.1 he' with h4 | h4
        · exact h2 e' h4 hg'
        · simp at h4; subst h4
          have := hg'.1; omega⟩
    · exact .inr ⟨e1, List.mem_append_left _ he, h1, h2, fun e' he' hg' => by
        rcases List.mem_append.1 he' with h4 | h4
        · exact h3 e' h4 hg'
        · simp at h4; subst h4
          have := hg'.1; omega⟩

/-! ### A heap -/
abbrev PQ := List (Int × Int)
def pd (q : PQ) (i : Nat) : Int := (q.getD i (0, 0)).2
def HeapOk (q : PQ) : Prop := ∀ i, 0 < i → i < q.length → pd q ((i - 1) / 2) ≤ pd q i
theorem HeapOk.root {q : PQ} (h : HeapOk q) : ∀ i, i < q.length → pd q 0 ≤ pd q i := by
  intro i
  induction i using Nat.strongRecOn with
  | ind i ih =>
    intro hi
    rcases Nat.eq_zero_or_pos i with h0 | h0
    · subst h0; exact Int.le_refl _
    · have := ih ((i - 1) / 2) (by omega) (by omega)
      have := h i h0 hi
      omega
theorem pd_set {q : PQ} {i j : Nat} {v : Int × Int} (h : i < q.length) : pd (q.set i v) j = if i = j then v.2 else pd q j := by
  simp only [pd, List.getD_eq_getElem?_getD, List.getElem?_set]
  split
  · subst_vars; simp [h]
  · rfl
/-- Two elements change places. -/
def swp (q : PQ) (i j : Nat) : PQ := (q.set i (q.getD j (0, 0))).set j (q.getD i (0, 0))
theorem swp_len {q : PQ} {i j : Nat} : (swp q i j).length = q.length := by simp [swp]
theorem swp_perm {q : PQ} {i j : Nat} (hi : i < q.length) (hj : j < q.length) : (swp q i j).Perm q := by
  have := List.set_set_perm (as := q) hi hj
  simpa [swp, List.getD_eq_getElem?_getD, hi, hj] using this
theorem pd_swp {q : PQ} {i j k : Nat} (hi : i < q.length) (hj : j < q.length) : pd (swp q i j) k = if j = k then pd q i else if i = k then pd q j else pd q k := by
  unfold swp
  rw [pd_set (by simp; exact hj), pd_set hi]
  rfl
/-- In order but for i and what is above it. -/
structure UpOk (q : PQ) (i : Nat) : Prop where
  at' : ∀ j, 0 < j → j < q.length → j ≠ i → pd q ((j - 1) / 2) ≤ pd q j
  over : ∀ j, 0 < j → j < q.length → 0 < i → (j - 1) / 2 = i → pd q ((i - 1) / 2) ≤ pd q j
theorem UpOk.begin {q : PQ} {v : Int × Int} (h : HeapOk q) : UpOk (q ++ [v]) q.length := by
  have e : ∀ j, j < q.length → pd (q ++ [v]) j = pd q j := fun j hj => by simp only [pd, List.getD_eq_getElem?_getD, List.getElem?_append_left hj]
  refine ⟨fun j h0 hj hn => ?_, fun j h0 hj hi hp => ?_⟩
  · simp at hj
    rw [e _ (by omega), e _ (by omega)]; exact h j h0 (by omega)
  · simp at hj; omega
theorem UpOk.done {q : PQ} {i : Nat} (h : UpOk q i) (hi : 0 < i → i < q.length → pd q ((i - 1) / 2) ≤ pd q i) : HeapOk q := fun j h0 hj => by
  by_cases hn : j = i
  · subst hn; exact hi h0 hj
  · exact h.at' j h0 hj hn
theorem UpOk.step {q : PQ} {i : Nat} (h : UpOk q i) (h0 : 0 < i) (hi : i < q.length) (hl : pd q i < pd q ((i - 1) / 2)) : UpOk (swp q i ((i - 1) / 2)) ((i - 1) / 2) := by
  have hu : (i - 1) / 2 < q.length := by omega
  refine ⟨fun j hj0 hj hn => ?_, fun j hj0 hj hp0 hp => ?_⟩
  · rw [swp_len] at hj
    rw [pd_swp hi hu, pd_swp hi hu]
    by_cases hji : j = i
    · subst hji
      rw [if_pos rfl, if_neg (by omega), if_pos rfl]; omega
    · have a := h.at' j hj0 hj hji
      rw [if_neg (by omega : ¬ (i - 1) / 2 = j), if_neg (by omega : ¬ i = j)]
      by_cases hpu : (i - 1) / 2 = (j - 1) / 2
      · rw [if_pos hpu]; rw [hpu] at hl; omega
      · rw [if_neg hpu]
        by_cases hpi : i = (j - 1) / 2
        · rw [if_pos hpi]
          exact h.over j hj0 hj h0 hpi.symm
        · rw [if_neg hpi]; exact a
  · rw [swp_len] at hj
    rw [pd_swp hi hu, pd_swp hi hu]
    have hpp := h.at' ((i - 1) / 2) hp0 hu (by omega)
    rw [if_neg (by omega : ¬ (i - 1) / 2 = ((i - 1) / 2 - 1) / 2), if_neg (by omega : ¬ i = ((i - 1) / 2 - 1) / 2)]
    by_cases hji : j = i
    · subst hji; rw [if_neg (by omega), if_pos rfl]; exact hpp
    · rw [if_neg (by omega), if_neg (by omega)]
      have a := h.at' j hj0 hj hji
      rw [hp] at a; omega
/-- In order but for what is right below i. -/
structure DownOk (q : PQ) (i : Nat) : Prop where
  at' : ∀ j, 0 < j → j < q.length → (j - 1) / 2 ≠ i → pd q ((j - 1) / 2) ≤ pd q j
  over : ∀ j, 0 < j → j < q.length → 0 < i → (j - 1) / 2 = i → pd q ((i - 1) / 2) ≤ pd q j
theorem DownOk.done {q : PQ} {i : Nat} (h : DownOk q i) (hi : ∀ j, 0 < j → j < q.length → (j - 1) / 2 = i → pd q i ≤ pd q j) : HeapOk q := fun j h0 hj => by
  by_cases hn : (j - 1) / 2 = i
  · rw [hn]; exact hi j h0 hj hn
  · exact h.at' j h0 hj hn
theorem DownOk.step {q : PQ} {i b : Nat} (h : DownOk q i) (hb0 : 0 < b) (hb : b < q.length) (hp : (b - 1) / 2 = i) (hl : pd q b < pd q i) (hmin : ∀ j, 0 < j → j < q.length → (j - 1) / 2 = i → pd q b ≤ pd q j) : DownOk (swp q i b) b := by
  have hi : i < q.length := by omega
  refine ⟨fun j hj0 hj hn => ?_, fun j hj0 hj hp0 hpj => ?_⟩
  · rw [swp_len] at hj
    rw [pd_swp hi hb, pd_swp hi hb]
    rw [if_neg (by omega : ¬ b = (j - 1) / 2)]
    by_cases hpi : i = (j - 1) / 2
    · rw [if_pos hpi]
      by_cases hjb : b = j
      · rw [if_pos hjb]; omega
      · rw [if_neg hjb, if_neg (by omega)]; exact hmin j hj0 hj hpi.symm
    · rw [if_neg hpi]
      rw [if_neg (by omega : ¬ b = j)]
      by_cases hji : i = j
      · rw [if_pos hji]
        subst hji
        exact h.over b hb0 hb hj0 hp
      · rw [if_neg hji]; exact h.at' j hj0 hj (by omega)
  · rw [swp_len] at hj
    rw [pd_swp hi hb, pd_swp hi hb]
    rw [hp, if_neg (by omega : ¬ b = i), if_pos rfl, if_neg (by omega : ¬ b = j), if_neg (by omega : ¬ i = j)]
    have := h.at' j hj0 hj (by omega)
    rw [hpj] at this; exact this
/-- The first taken away, the last in its place. -/
theorem DownOk.begin {q : PQ} {v w : Int × Int} (h : HeapOk (v :: (q ++ [w]))) : DownOk (w :: q) 0 := by
  refine ⟨fun j hj0 hj hn => ?_, fun j hj0 hj h0 hp => absurd h0 (by omega)⟩
  have e : ∀ j, 0 < j → j < (w :: q).length → pd (w :: q) j = pd (v :: (q ++ [w])) j := fun j h0 hj => by
    obtain ⟨k, rfl⟩ : ∃ k, j = k + 1 := ⟨j - 1, by omega⟩
    have hk : k < q.length := by simpa using hj
    simp only [pd, List.getD_eq_getElem?_getD, List.getElem?_cons_succ, List.getElem?_append_left hk]
  rw [e _ hj0 hj, e _ (by omega) (by omega)]
  exact h j hj0 (by simp at hj ⊢; omega)

theorem DownOk.root {q : PQ} {p : Int × Int} (h : HeapOk (p :: q)) : DownOk (((p :: q).set 0 ((p :: q).getD q.length (0, 0))).take q.length) 0 ∧ (((p :: q).set 0 ((p :: q).getD q.length (0, 0))).take q.length).Perm q := by
  rcases List.eq_nil_or_concat q with rfl | ⟨q', w, rfl⟩
  · exact ⟨⟨fun j _ hj => by simp at hj, fun j _ hj => by simp at hj⟩, by simp⟩
  · have e1 : (p :: q'.concat w).getD (q'.concat w).length (0, 0) = w := by simp [List.getD_eq_getElem?_getD]
    rw [e1]
    have e2 : ((p :: q'.concat w).set 0 w).take (q'.concat w).length = w :: q' := by simp
    rw [e2]
    rw [List.concat_eq_append] at h ⊢
    exact ⟨DownOk.begin h, (List.perm_append_singleton w q').symm⟩

/-! ### Cells taken by their distance -/
structure Near (es : List E4) (N t : Nat) (ds : List Int) (q : PQ) : Prop where
  len : ds.length = N
  lo : ∀ u, u < N → -1 ≤ ds.getD u 0
  tgt : ds.getD t 0 = 0 ∨ ds.getD t 0 < 0 ∧ ((t : Int), (0 : Int)) ∈ q
  cell : ∀ p ∈ q, (0 ≤ p.1 ∧ p.1 < N) ∧ 0 ≤ p.2 ∧ p.2 ≤ 9 * cnt ds
  src : ∀ p ∈ q, p = ((t : Int), (0 : Int)) ∨ ∃ e ∈ es, e.f = p.1 ∧ 0 ≤ gi ds e.t ∧ p.2 = gi ds e.t + e.c
  mono : ∀ u, u < N → 0 ≤ ds.getD u 0 → ∀ p ∈ q, ds.getD u 0 ≤ p.2
  edge : ∀ e ∈ es, 0 ≤ gi ds e.t → (0 ≤ gi ds e.f ∧ gi ds e.f ≤ gi ds e.t + e.c) ∨ (e.f, gi ds e.t + e.c) ∈ q
  way : ∀ u, u < N → u ≠ t → 0 ≤ ds.getD u 0 → ∃ e ∈ es, e.f = u ∧ 0 ≤ gi ds e.t ∧ ds.getD u 0 = gi ds e.t + e.c
theorem Near.done {es : List E4} {N t : Nat} {ds : List Int} (h : Near es N t ds []) : DistOk es N t ds :=
  ⟨h.len, by simpa using h.tgt, h.lo, fun e he h0 => by simpa using h.edge e he h0, h.way⟩
theorem Near.begin {es : List E4} {N t : Nat} {ds : List Int} (ok : EsOk es N) (ht : t < N) (hl : ds.length = N) (h0 : ∀ u, u < N → ds.getD u 0 = -1) : Near es N t ds [((t : Int), (0 : Int))] := by
  refine ⟨hl, fun u hu => by rw [h0 u hu]; omega, .inr ⟨by rw [h0 t ht]; omega, by simp⟩, fun p hp => ?_, fun p hp => .inl (by simpa using hp), fun u hu h => ?_, fun e he h => ?_, fun u hu _ h => ?_⟩
  · simp at hp; subst hp; simp; omega
  · rw [h0 u hu] at h; omega
  · have := ok.t e he
    simp only [gi] at h
    rw [h0 _ (by omega)] at h; omega
  · rw [h0 u hu] at h; omega
theorem Near.perm {es : List E4} {N t : Nat} {ds : List Int} {q q' : PQ} (h : Near es N t ds q) (hq : ∀ p, p ∈ q' ↔ p ∈ q) : Near es N t ds q' :=
  ⟨h.len, h.lo, by rcases h.tgt with a | ⟨a, b⟩
                   · exact .inl a
                   · exact .inr ⟨a, (hq _).2 b⟩,
   fun p hp => h.cell p ((hq p).1 hp), fun p hp => h.src p ((hq p).1 hp), fun u hu h0 p hp => h.mono u hu h0 p ((hq p).1 hp), fun e he h0 => (h.edge e he h0).imp id (hq _).2, h.way⟩
/-- A cell that was taken already. -/
theorem Near.drop {es : List E4} {N t : Nat} {ds : List Int} {p : Int × Int} {q : PQ} (ok : EsOk es N) (h : Near es N t ds (p :: q)) (h0 : 0 ≤ gi ds p.1) : Near es N t ds q := by
  have hp := h.cell p (by simp)
  refine ⟨h.len, h.lo, ?_, fun p' hp' => h.cell p' (by simp [hp']), fun p' hp' => h.src p' (by simp [hp']), fun u hu hd p' hp' => h.mono u hu hd p' (by simp [hp']), fun e he hd => ?_, h.way⟩
  · rcases h.tgt with a | ⟨a, b⟩
    · exact .inl a
    · rcases List.mem_cons.1 b with b | b
      · rw [← b] at h0; simp only [gi, Int.toNat_natCast] at h0; omega
      · exact .inr ⟨a, b⟩
  · rcases h.edge e he hd with a | a
    · exact .inl a
    · rcases List.mem_cons.1 a with a | a
      · rw [← a] at h0
        simp only at h0
        have hf := ok.f e he
        have := h.mono e.f.toNat (by omega) h0 (e.f, gi ds e.t + e.c) (by simp [← a])
        exact .inl ⟨h0, this⟩
      · exact .inr a
/-- The nearest cell that was not taken yet. -/
theorem Near.take {es : List E4} {N t : Nat} {ds : List Int} {p : Int × Int} {q news : PQ} (ok : EsOk es N) (ht : t < N) (h : Near es N t ds (p :: q)) (h0 : gi ds p.1 < 0) (hmin : ∀ p' ∈ q, p.2 ≤ p'.2)
    (hn1 : ∀ p' ∈ news, ∃ e ∈ es, e.t = p.1 ∧ p' = (e.f, p.2 + e.c)) (hn2 : ∀ e ∈ es, e.t = p.1 → (e.f, p.2 + e.c) ∈ news) :
    Near es N t (ds.set p.1.toNat p.2) (news ++ q) ∧ cnt (ds.set p.1.toNat p.2) = cnt ds + 1 := by
  obtain ⟨hp1, hp2, hp3⟩ := h.cell p (by simp)
  have hl : p.1.toNat < ds.length := by rw [h.len]; omega
  have hcnt := cnt_set (v := p.2) hl hp2
  simp only [gi] at h0
  rw [if_neg (by omega)] at hcnt
  have hg : ∀ u, (ds.set p.1.toNat p.2).getD u 0 = if p.1.toNat = u then p.2 else ds.getD u 0 := fun u => getD_set hl
  have hgt : (ds.set p.1.toNat p.2).getD t 0 = 0 ∨ (ds.set p.1.toNat p.2).getD t 0 < 0 ∧ ((t : Int), (0 : Int)) ∈ news ++ q := by
    rw [hg]
    by_cases hpt : p.1.toNat = t
    · rw [if_pos hpt]
      rcases h.tgt with a | ⟨a, b⟩
      · rw [hpt] at h0; omega
      · rcases List.mem_cons.1 b with b | b
        · rw [← b]; exact .inl rfl
        · have := hmin _ b; simp only at this; left; omega
    · rw [if_neg hpt]
      rcases h.tgt with a | ⟨a, b⟩
      · exact .inl a
      · rcases List.mem_cons.1 b with b | b
        · rw [← b] at hpt; simp at hpt
        · exact .inr ⟨a, by simp [b]⟩
  refine ⟨⟨by simp [h.len], fun u hu => ?_, hgt, fun p' hp' => ?_, fun p' hp' => ?_, fun u hu hd p' hp' => ?_, fun e he hd => ?_, fun u hu hut hd => ?_⟩, hcnt⟩
  · rw [hg]; split
    · omega
    · exact h.lo u hu
  · rw [hcnt]
    rcases List.mem_append.1 hp' with a | a
    · obtain ⟨e, he, h1, rfl⟩ := hn1 p' a
      have := ok.f e he
      have := ok.c e he
      simp only
      omega
    · have := h.cell p' (by simp [a]); omega
  · rcases List.mem_append.1 hp' with a | a
    · obtain ⟨e, he, h1, rfl⟩ := hn1 p' a
      refine .inr ⟨e, he, rfl, ?_⟩
      simp only [gi, hg, h1, if_true]
      exact ⟨hp2, trivial⟩
    · rcases h.src p' (by simp [a]) with b | ⟨e, he, h1, h2, h3⟩
      · exact .inl b
      · refine .inr ⟨e, he, h1, ?_⟩
        simp only [gi] at h2 h3
        simp only [gi, hg]
        have : p.1.toNat ≠ e.t.toNat := fun hh => by rw [hh] at h0; omega
        rw [if_neg this]; exact ⟨h2, h3⟩
  · have hb : (ds.set p.1.toNat p.2).getD u 0 ≤ p.2 := by
      rw [hg] at hd ⊢
      split
      · exact Int.le_refl _
      · rename_i hne; rw [if_neg hne] at hd; exact h.mono u hu hd p (by simp)
    rcases List.mem_append.1 hp' with a | a
    · obtain ⟨e, he, h1, rfl⟩ := hn1 p' a
      have := ok.c e he
      simp only; omega
    · have := hmin p' a; omega
  · have hte := ok.t e he
    have hfe := ok.f e he
    by_cases hte' : e.t = p.1
    · right
      simp only [gi, hg, hte', if_true]
      exact List.mem_append_left _ (hn2 e he hte')
    · have hne : p.1.toNat ≠ e.t.toNat := fun hh => hte' (by omega)
      simp only [gi, hg] at hd ⊢
      rw [if_neg hne] at hd ⊢
      rcases h.edge e he hd with a | a
      · simp only [gi] at a
        have : p.1.toNat ≠ e.f.toNat := fun hh => by rw [hh] at h0; omega
        rw [if_neg this]; exact .inl a
      · rcases List.mem_cons.1 a with a | a
        · left
          rw [← a] at hp2 ⊢
          simp only [if_true]
          simp only [gi] at hp2 ⊢
          exact ⟨hp2, Int.le_refl _⟩
        · exact .inr (List.mem_append_right _ a)
  · rw [hg] at hd ⊢
    by_cases hpu : p.1.toNat = u
    · rw [if_pos hpu]
      rcases h.src p (by simp) with b | ⟨e, he, h1, h2, h3⟩
      · rw [b] at hpu; simp at hpu; exact absurd hpu.symm hut
      · refine ⟨e, he, by omega, ?_⟩
        simp only [gi] at h2 h3
        have : p.1.toNat ≠ e.t.toNat := fun hh => by rw [hh] at h0; omega
        simp only [gi, hg]; rw [if_neg this]; exact ⟨h2, h3⟩
    · rw [if_neg hpu] at hd ⊢
      obtain ⟨e, he, h1, h2, h3⟩ := h.way u hu hut hd
      refine ⟨e, he, h1, ?_⟩
      simp only [gi] at h2 h3
      have : p.1.toNat ≠ e.t.toNat := fun hh => by rw [hh] at h0; omega
      simp only [gi, hg]; rw [if_neg this]; exact ⟨h2, h3⟩
end Go.AB
