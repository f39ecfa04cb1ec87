/- What the walk of components keeps in memory. (Printed by mkt25.py.) -/
import Derived.Test.YtnbamdhmhnhneaaT24
set_option linter.unusedVariables false
set_option linter.unusedSimpArgs false
set_option maxRecDepth 10000
set_option maxHeartbeats 2000000
namespace Go.AB
open Go.Proofs
variable {w0 : World} {H : AHeap}

structure CLay where
  (n0 kG aI aL kI kL aO kO kS kN kV N : Nat)
  ord : n0 ≤ kG ∧ kG < aI ∧ aI < aL ∧ aL < kI ∧ kI < kL ∧ kL < aO ∧ aO < kO ∧ kO < kS ∧ kS < kN ∧ kN < kV
def CLay.has (L : CLay) (k : Nat) : Prop := k < L.n0 ∨ k = L.kG ∨ k = L.aI ∨ k = L.aL ∨ k = L.kI ∨ k = L.kL ∨ k = L.aO ∨ k = L.kO ∨ k = L.kS ∨ k = L.kN ∨ k = L.kV
abbrev VISIT (L : CLay) : Value := .func (.func 28) #[] #[pt L.kN 0, pt L.kI 0, pt L.kL 0, pt L.kS 0, pt L.kG 0, pt L.kV 0, pt L.kO 0]
def zs (stk : List Nat) : List Int := stk.map fun (n : Nat) => (n : Int)
theorem zs_len {stk : List Nat} : (zs stk).length = stk.length := by simp [zs]
theorem zs_app {s t : List Nat} : zs (s ++ t) = zs s ++ zs t := by simp [zs]

structure CF (L : CLay) (g : GV) (H0 G : AHeap) (ix lo ou : List Int) (stk : List Nat) (nx : Int) : Prop where
  n : G.get L.kN = .cells [iv nx] 3
  i : G.get L.kI = .cells [(SV.at L.aI 0 L.N).v] 22
  l : G.get L.kL = .cells [(SV.at L.aL 0 L.N).v] 22
  s : ∃ sS : SV, G.get L.kS = .cells [sS.v] 22 ∧ IOwn G sS (zs stk) ∧ ∀ k, L.has k → sS.off k
  g : G.get L.kG = .cells g.cs 28
  v : G.get L.kV = .cells [VISIT L] 58
  o : G.get L.kO = .cells [(SV.at L.aO 0 L.N).v] 22
  oi : IOwn G (.at L.aI 0 L.N) ix
  ol : IOwn G (.at L.aL 0 L.N) lo
  oo : IOwn G (.at L.aO 0 L.N) ou
  li : ix.length = L.N
  ll : lo.length = L.N
  lo' : ou.length = L.N
  z : H0.n = L.n0
  e : Ext H0 G
variable {L : CLay} {g : GV} {H0 G G' : AHeap} {ix lo ou : List Int} {stk : List Nat} {nx z : Int} {c : Nat}
theorem CF.ldN (h : CF L g H0 G ix lo ou stk nx) : ldO G (some (pt L.kN 0)) = some (iv nx, G) := by rw [ldO_at, h.n]; rfl
theorem CF.ldI (h : CF L g H0 G ix lo ou stk nx) : ldO G (some (pt L.kI 0)) = some ((SV.at L.aI 0 L.N).v, G) := by rw [ldO_at, h.i]; rfl
theorem CF.ldL (h : CF L g H0 G ix lo ou stk nx) : ldO G (some (pt L.kL 0)) = some ((SV.at L.aL 0 L.N).v, G) := by rw [ldO_at, h.l]; rfl
theorem CF.ldO (h : CF L g H0 G ix lo ou stk nx) : ldO G (some (pt L.kO 0)) = some ((SV.at L.aO 0 L.N).v, G) := by rw [ldO_at, h.o]; rfl
theorem CF.ldV (h : CF L g H0 G ix lo ou stk nx) : AB.ldO G (some (pt L.kV 0)) = some (VISIT L, G) := by rw [ldO_at, h.v]; rfl
theorem at_ia {a N j : Nat} (h : j < N) : iaO 1 (some (SV.at a 0 N).v) (some (iv j)) G = some ((SV.at a 0 N).p j, G) := by rw [iaO_n (show j < (SV.at a 0 N).len from h), Nat.mul_one]
theorem Own.kp {s : SV} {xs : List Int} (h : IOwn G s xs) {a : Nat} (ha : s.off a) (ne : ∀ k, k ≠ a → G'.get k = G.get k) : IOwn G' s xs := h.keep fun b hb => ne b fun he => hb (he ▸ ha)
theorem at_ne {a k N j : Nat} {vs : List Value} (h : k ≠ a) : ((SV.at a 0 N).put G j vs).get k = G.get k := SV.put_ne fun he => h he.symm
theorem at_off {a k o N : Nat} : (SV.at a o N).off k ↔ a ≠ k := Iff.rfl
theorem Ext.kp {a : Nat} (h : Ext H0 G) (ne : ∀ k, k ≠ a → G'.get k = G.get k) (hn : G.n ≤ G'.n) (ha : H0.n ≤ a) : Ext H0 G' := ⟨Nat.le_trans h.1 hn, fun b hb => by rw [ne b (by omega), h.2 b hb]⟩
theorem CF.setI (h : CF L g H0 G ix lo ou stk nx) (hc : c < L.N) : CF L g H0 ((SV.at L.aI 0 L.N).put G c [iv z]) (ix.set c z) lo ou stk nx := by
  obtain ⟨o1, o2, o3, o4, o5, o6, o7, o8, o9, o10⟩ := L.ord
  have hz := h.z
  have ne : ∀ k, k ≠ L.aI → ((SV.at L.aI 0 L.N).put G c [iv z]).get k = G.get k := fun k hk => at_ne hk
  obtain ⟨sS, s1, s2, s3⟩ := h.s
  exact ⟨by rw [ne _ (by omega)]; exact h.n, by rw [ne _ (by omega)]; exact h.i, by rw [ne _ (by omega)]; exact h.l, ⟨sS, by rw [ne _ (by omega)]; exact s1, s2.kp (s3 _ (by unfold CLay.has; omega)) ne, s3⟩, by rw [ne _ (by omega)]; exact h.g, by rw [ne _ (by omega)]; exact h.v, by rw [ne _ (by omega)]; exact h.o, iown_put h.oi (by rw [h.li]; exact hc), h.ol.kp (by rw [at_off]; omega) ne, h.oo.kp (by rw [at_off]; omega) ne, by rw [List.length_set]; exact h.li, h.ll, h.lo', h.z, h.e.kp ne (by rw [SV.put_n]; omega) (by omega)⟩
theorem CF.setL (h : CF L g H0 G ix lo ou stk nx) (hc : c < L.N) : CF L g H0 ((SV.at L.aL 0 L.N).put G c [iv z]) ix (lo.set c z) ou stk nx := by
  obtain ⟨o1, o2, o3, o4, o5, o6, o7, o8, o9, o10⟩ := L.ord
  have hz := h.z
  have ne : ∀ k, k ≠ L.aL → ((SV.at L.aL 0 L.N).put G c [iv z]).get k = G.get k := fun k hk => at_ne hk
  obtain ⟨sS, s1, s2, s3⟩ := h.s
  exact ⟨by rw [ne _ (by omega)]; exact h.n, by rw [ne _ (by omega)]; exact h.i, by rw [ne _ (by omega)]; exact h.l, ⟨sS, by rw [ne _ (by omega)]; exact s1, s2.kp (s3 _ (by unfold CLay.has; omega)) ne, s3⟩, by rw [ne _ (by omega)]; exact h.g, by rw [ne _ (by omega)]; exact h.v, by rw [ne _ (by omega)]; exact h.o, h.oi.kp (by rw [at_off]; omega) ne, iown_put h.ol (by rw [h.ll]; exact hc), h.oo.kp (by rw [at_off]; omega) ne, h.li, by rw [List.length_set]; exact h.ll, h.lo', h.z, h.e.kp ne (by rw [SV.put_n]; omega) (by omega)⟩
theorem CF.setO (h : CF L g H0 G ix lo ou stk nx) (hc : c < L.N) : CF L g H0 ((SV.at L.aO 0 L.N).put G c [iv z]) ix lo (ou.set c z) stk nx := by
  obtain ⟨o1, o2, o3, o4, o5, o6, o7, o8, o9, o10⟩ := L.ord
  have hz := h.z
  have ne : ∀ k, k ≠ L.aO → ((SV.at L.aO 0 L.N).put G c [iv z]).get k = G.get k := fun k hk => at_ne hk
  obtain ⟨sS, s1, s2, s3⟩ := h.s
  exact ⟨by rw [ne _ (by omega)]; exact h.n, by rw [ne _ (by omega)]; exact h.i, by rw [ne _ (by omega)]; exact h.l, ⟨sS, by rw [ne _ (by omega)]; exact s1, s2.kp (s3 _ (by unfold CLay.has; omega)) ne, s3⟩, by rw [ne _ (by omega)]; exact h.g, by rw [ne _ (by omega)]; exact h.v, by rw [ne _ (by omega)]; exact h.o, h.oi.kp (by rw [at_off]; omega) ne, h.ol.kp (by rw [at_off]; omega) ne, iown_put h.oo (by rw [h.lo']; exact hc), h.li, h.ll, by rw [List.length_set]; exact h.lo', h.z, h.e.kp ne (by rw [SV.put_n]; omega) (by omega)⟩
theorem CF.setN (h : CF L g H0 G ix lo ou stk nx) : CF L g H0 (G.put L.kN 0 [iv z]) ix lo ou stk z := by
  obtain ⟨o1, o2, o3, o4, o5, o6, o7, o8, o9, o10⟩ := L.ord
  have hz := h.z
  have ne : ∀ k, k ≠ L.kN → (G.put L.kN 0 [iv z]).get k = G.get k := fun k hk => AHeap.put_ne hk
  obtain ⟨sS, s1, s2, s3⟩ := h.s
  exact ⟨by rw [put_at, h.n]; rfl, by rw [ne _ (by omega)]; exact h.i, by rw [ne _ (by omega)]; exact h.l, ⟨sS, by rw [ne _ (by omega)]; exact s1, s2.kp (s3 _ (by unfold CLay.has; omega)) ne, s3⟩, by rw [ne _ (by omega)]; exact h.g, by rw [ne _ (by omega)]; exact h.v, by rw [ne _ (by omega)]; exact h.o, h.oi.kp (by rw [at_off]; omega) ne, h.ol.kp (by rw [at_off]; omega) ne, h.oo.kp (by rw [at_off]; omega) ne, h.li, h.ll, h.lo', h.z, h.e.kp ne (by rw [AHeap.put_n]; omega) (by omega)⟩
/-- The stack's variable and its slice. -/
structure CS (L : CLay) (G : AHeap) (sS : SV) (stk : List Nat) : Prop where
  at' : G.get L.kS = .cells [sS.v] 22
  own : IOwn G sS (zs stk)
  off : ∀ k, L.has k → sS.off k
theorem CF.st (h : CF L g H0 G ix lo ou stk nx) : ∃ sS, CS L G sS stk := let ⟨sS, h1, h2, h3⟩ := h.s; ⟨sS, h1, h2, h3⟩
theorem CS.ld {sS : SV} (h : CS L G sS stk) : AB.ldO G (some (pt L.kS 0)) = some (sS.v, G) := by rw [ldO_at, h.at']; rfl
theorem CF.restack {stk' : List Nat} {sS : SV} (h : CF L g H0 G ix lo ou stk nx) (ne : ∀ k, L.has k → k ≠ L.kS → G'.get k = G.get k) (hn : G.n ≤ G'.n) (hs : CS L G' sS stk') : CF L g H0 G' ix lo ou stk' nx := by
  obtain ⟨o1, o2, o3, o4, o5, o6, o7, o8, o9, o10⟩ := L.ord
  have hz := h.z
  have kp : ∀ {a : Nat} {xs : List Int}, IOwn G (.at a 0 L.N) xs → L.has a → a ≠ L.kS → IOwn G' (.at a 0 L.N) xs := fun ho h1 h2 => ho.keep fun b hb => by
    rw [at_off, ne_eq, Classical.not_not] at hb
    subst hb; exact ne _ h1 h2
  exact ⟨by rw [ne _ (by unfold CLay.has; omega) (by omega)]; exact h.n, by rw [ne _ (by unfold CLay.has; omega) (by omega)]; exact h.i, by rw [ne _ (by unfold CLay.has; omega) (by omega)]; exact h.l, ⟨sS, hs.at', hs.own, hs.off⟩, by rw [ne _ (by unfold CLay.has; omega) (by omega)]; exact h.g, by rw [ne _ (by unfold CLay.has; omega) (by omega)]; exact h.v, by rw [ne _ (by unfold CLay.has; omega) (by omega)]; exact h.o, kp h.oi (by unfold CLay.has; omega) (by omega), kp h.ol (by unfold CLay.has; omega) (by omega), kp h.oo (by unfold CLay.has; omega) (by omega), h.li, h.ll, h.lo', h.z, ⟨Nat.le_trans h.e.1 hn, fun b hb => by rw [ne b (.inl (by omega)) (by omega), h.e.2 b hb]⟩⟩
theorem CF.lt (h : CF L g H0 G ix lo ou stk nx) {k : Nat} (hk : L.has k) : k < G.n := by
  obtain ⟨o1, o2, o3, o4, o5, o6, o7, o8, o9, o10⟩ := L.ord
  have := AHeap.lt_of h.v (by simp)
  unfold CLay.has at hk
  omega
theorem CF.push {sS : SV} (h : CF L g H0 G ix lo ou stk nx) (hs : CS L G sS stk) : CF L g H0 (G.upd L.kS 0 sS 3 (ints (zs stk)) [iv c]) ix lo ou (stk ++ [c]) nx := by
  obtain ⟨o1, o2, o3, o4, o5, o6, o7, o8, o9, o10⟩ := L.ord
  have hkS : L.has L.kS := by unfold CLay.has; omega
  refine h.restack (fun k hk hne => upd_ne (h.lt hk) hne (hs.off k hk)) (by rw [upd_n]; omega) ⟨?_, ?_, fun k hk => ?_⟩ (sS := .at (G.n + 1) 0 (sS.len + 1))
  · rw [upd_self hs.at' (hs.off _ hkS)]; rfl
  · have := upd_own (b := L.kS) (j := 0) (ds := [iv c]) hs.own rfl (h.lt hkS)
    rw [zs_app]
    show Own _ _ _ _ (ints (zs stk ++ zs [c]))
    rw [← ints_app]; exact this
  · have := h.lt hk
    rw [at_off]; omega
theorem CF.pop {sS : SV} {s t : List Nat} (h : CF L g H0 G ix lo ou (s ++ t) nx) (hs : CS L G sS (s ++ t)) : CF L g H0 (G.put L.kS 0 [(sS.cut 1 0 s.length).v]) ix lo ou s nx := by
  obtain ⟨o1, o2, o3, o4, o5, o6, o7, o8, o9, o10⟩ := L.ord
  have hkS : L.has L.kS := by unfold CLay.has; omega
  have hl := iarr_len hs.own.arr
  rw [zs_len, List.length_append] at hl
  refine h.restack (fun k hk hne => AHeap.put_ne hne) (by rw [AHeap.put_n]; omega) ⟨?_, ?_, fun k hk => SV.cut_off.2 (hs.off k hk)⟩ (sS := sS.cut 1 0 s.length)
  · rw [put_at, hs.at']; rfl
  · have := hs.own.cut (l := 0) (r := s.length) (by omega) (by omega)
    refine Own.put' ?_ (SV.cut_off.2 (hs.off _ hkS))
    have e : ((ints (zs (s ++ t))).drop (0 * 1)).take ((s.length - 0) * 1) = ints (zs s) := by
      simp [zs, ints, ← List.map_take]
    rwa [e] at this

/-! ### Cells not visited -/
def cnt0 (xs : List Int) : Nat := xs.countP fun z => z == 0
theorem cnt0_set : ∀ {xs : List Int} {c : Nat} {z : Int}, c < xs.length → xs.getD c 0 = 0 → z ≠ 0 → cnt0 (xs.set c z) + 1 = cnt0 xs
  | [], c, z, h, _, _ => by simp at h
  | x :: xs, 0, z, h, h0, hz => by
    simp only [List.getD_cons_zero] at h0; subst h0
    simp [cnt0, hz]
  | x :: xs, c + 1, z, h, h0, hz => by
    have := cnt0_set (xs := xs) (c := c) (z := z) (by simpa using h) (by simpa using h0) hz
    simp only [cnt0, List.set_cons_succ, List.countP_cons] at this ⊢
    omega
def fi (xs : List Int) : Nat → Int := fun v => xs.getD v 0
theorem fi_set {xs : List Int} {c : Nat} {z : Int} (h : c < xs.length) : fi (xs.set c z) = updI (fi xs) c z := by
  funext v
  simp only [fi, updI]
  rw [getD_set h]
  by_cases hv : v = c
  · subst hv; simp
  · rw [if_neg hv, if_neg (fun he => hv he.symm)]
theorem TLoop.mono {E : Nat → Nat → Prop} {N : Nat} {g : Nat → Prop} {c : Nat} {ix0 lo0 ou0 ix lo ou : Nat → Int} {stk s : List Nat} {nx0 nx : Int} {D D' : Nat → Prop} (h : TLoop E N g c ix0 lo0 ou0 stk nx0 D ix lo ou s nx) (hD : ∀ y, D' y → D y) : TLoop E N g c ix0 lo0 ou0 stk nx0 D' ix lo ou s nx :=
  ⟨h.wf, h.ixc, h.ixk, h.lok, h.ouk, h.nxk, h.new, h.low, h.lown, h.cross, fun y hy => h.dne y (hD y hy), h.sn⟩
/-- The edges of a cell, by their places. -/
theorem ER_iff {x : GD} {es : List E4} (ok : x.Ok) (he : x.Edges es) {u v : Nat} : ER es u v ↔ ((u : Int) < x.n ∧ ∃ k : Nat, x.s.getD u 0 ≤ k ∧ (k : Int) < x.s.getD (u + 1) 0 ∧ x.t.getD k 0 = v) := by
  constructor
  · rintro ⟨e, hm, h1, h2⟩
    obtain ⟨k, hk, rfl⟩ := List.getElem_of_mem hm
    obtain ⟨c, c1, c2, c3, c4⟩ := he.get k (by rw [← he.len]; exact hk)
    rw [List.getElem?_eq_getElem hk] at c4
    cases hh : es[k] with
    | mk f t d cc =>
      rw [hh] at c4 h1 h2
      simp only [Option.some.injEq, E4.mk.injEq] at c4
      obtain ⟨a1, a2, a3, a4⟩ := c4
      simp only at h1 h2
      have huc : u = c := by omega
      subst huc
      exact ⟨c1, k, c2, c3, by rw [← a2, h2]⟩
  · rintro ⟨h1, k, h2, h3, h4⟩
    have hkt : k < x.t.length := by
      have a := ok.up' (u + 1) x.n.toNat (by omega) (by omega)
      have := ok.t
      omega
    obtain ⟨c, c1, c2, c3, c4⟩ := he.get k hkt
    have huc : u = c := by
      rcases Nat.lt_trichotomy u c with hlt | heq | hgt
      · have := ok.up' (u + 1) c (by omega) (by omega); omega
      · exact heq
      · have := ok.up' (c + 1) u (by omega) (by omega); omega
    subst huc
    exact ⟨_, List.mem_of_getElem? c4, rfl, h4⟩
end Go.AB
