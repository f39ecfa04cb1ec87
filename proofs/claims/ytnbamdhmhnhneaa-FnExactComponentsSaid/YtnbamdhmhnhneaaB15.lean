/- Own framework, part 15: what is to be shown of code has one outcome; contracts; steps. -/
import Derived.Test.YtnbamdhmhnhneaaB9
set_option linter.unusedVariables false
set_option linter.unusedSimpArgs false
namespace Go.AB
open Go.RowKit
variable {P : Program} {w0 : World} {H H' : AHeap} {e : Env}

theorem Rets.mono {f : FuncId} {args : List Value} {Φ Ψ : Value → AHeap → Prop} (h : Rets P w0 f args H Φ) (hi : ∀ v H', H.n ≤ H'.n → Φ v H' → Ψ v H') : Rets P w0 f args H Ψ :=
  let ⟨v, H', h1, h2, h3⟩ := h
  ⟨v, H', h1, h2, hi _ _ h2 h3⟩

theorem opsW_det {K : Env → AHeap → Prop} : ∀ (l : List AOper) (rs : List Value) (e : Env) (H : AHeap), opsW P w0 l rs e H K → ∃ e' H', (∀ K' : Env → AHeap → Prop, K' e' H' → opsW P w0 l rs e H K') ∧ H.n ≤ H'.n ∧ K e' H'
  | [], rs, e, H, h => ⟨e, H, fun K' h => h, Nat.le_refl _, h⟩
  | o :: l, rs, e, H, h => by
    unfold opsW at h
    split at h
    · rename_i hg
      obtain ⟨e', H', h1, h2, h3⟩ := opsW_det l _ _ _ h
      exact ⟨e', H', fun K' hk => by rw [opsW]; simp only [hg]; exact h1 K' hk, h2, h3⟩
    · rename_i hg
      split at h
      · rename_i f xs hop
        split at h
        · rename_i vs hvs
          obtain ⟨v, H1, hc, hn, hr⟩ := h
          obtain ⟨e', H', h1, h2, h3⟩ := opsW_det l _ _ _ hr
          exact ⟨e', H', fun K' hk => by rw [opsW]; simp only [hg, hop, hvs]; exact ⟨v, H1, hc, hn, h1 K' hk⟩, by omega, h3⟩
        · exact h.elim
      · rename_i x xs hop
        split at h
        · rename_i t vs ht hvs
          split at h
          · rename_i f fs cs htg
            obtain ⟨hcb, v, H1, hc, hn, hr⟩ := h
            obtain ⟨e', H', h1, h2, h3⟩ := opsW_det l _ _ _ hr
            exact ⟨e', H', fun K' hk => by rw [opsW]; simp only [hg, hop, ht, hvs, htg]; exact ⟨hcb, v, H1, hc, hn, h1 K' hk⟩, by omega, h3⟩
          · exact h.elim
        · exact h.elim
      · rename_i hno1 hno2
        split at h
        · rename_i v H1 hv
          obtain ⟨e', H', h1, h2, h3⟩ := opsW_det l _ _ _ h
          have := aop_mono hv
          refine ⟨e', H', fun K' hk => ?_, by omega, h3⟩
          rw [opsW]
          simp only [hg]
          simp only [hv]; exact h1 K' hk
        · exact h.elim
    · exact h.elim

theorem opsD_det {cf : List (Nat × Nat)} {K : Env → AHeap → Prop} : ∀ (l : List AOper) (rs : List Value) (e : Env) (H : AHeap) (tr : List Rec), opsD P w0 cf l rs e H tr K → ∃ e' H', (∀ K' : Env → AHeap → Prop, K' e' H' → opsD P w0 cf l rs e H tr K') ∧ H.n ≤ H'.n ∧ K e' H'
  | [], rs, e, H, tr, h => ⟨e, H, fun K' hk => ⟨h.1, hk⟩, Nat.le_refl _, h.2⟩
  | o :: l, rs, e, H, tr, h => by
    unfold opsD at h
    split at h
    · rename_i hg
      obtain ⟨e', H', h1, h2, h3⟩ := opsD_det l _ _ _ _ h
      exact ⟨e', H', fun K' hk => by rw [opsD]; simp only [hg]; exact h1 K' hk, h2, h3⟩
    · rename_i hg
      split at h
      · rename_i f xs hop
        split at h
        · rename_i vs hvs
          obtain ⟨v, H1, hc, hn, hr⟩ := h
          obtain ⟨e', H', h1, h2, h3⟩ := opsD_det l _ _ _ _ hr
          exact ⟨e', H', fun K' hk => by rw [opsD]; simp only [hg, hop, hvs]; exact ⟨v, H1, hc, hn, h1 K' hk⟩, by omega, h3⟩
        · exact h.elim
      · rename_i x xs hop
        split at h
        · rename_i t vs ht hvs
          split at h
          · rename_i f fs cs htg
            obtain ⟨hcb, v, H1, hc, hn, hr⟩ := h
            obtain ⟨e', H', h1, h2, h3⟩ := opsD_det l _ _ _ _ hr
            exact ⟨e', H', fun K' hk => by rw [opsD]; simp only [hg, hop, ht, hvs, htg]; exact ⟨hcb, v, H1, hc, hn, h1 K' hk⟩, by omega, h3⟩
          · exact h.elim
        · exact h.elim
      · rename_i hno1 hno2
        split at h
        · rename_i v H1 hv
          obtain ⟨e', H', h1, h2, h3⟩ := opsD_det l _ _ _ _ h
          have := aop_mono hv
          refine ⟨e', H', fun K' hk => ?_, by omega, h3⟩
          rw [opsD]
          simp only [hg]
          simp only [hv]; exact h1 K' hk
        · exact h.elim
    · exact h.elim

/-- Code behind which Q holds has one outcome, and Q holds of it. -/
theorem CW_det : ∀ (a : AC) (e : Env) (H : AHeap) (Q : AX → Env → AHeap → Prop), CW P w0 a e H Q → ∃ x e' H', (∀ Q' : AX → Env → AHeap → Prop, Q' x e' H' → CW P w0 a e H Q') ∧ H.n ≤ H'.n ∧ Q x e' H'
  | .skip, e, H, Q, h => ⟨.normal, e, H, fun Q' h => h, Nat.le_refl _, h⟩
  | .ops l, e, H, Q, h => by
    obtain ⟨e', H', h1, h2, h3⟩ := opsW_det l [] e H h
    exact ⟨.normal, e', H', fun Q' hq => h1 _ hq, h2, h3⟩
  | .draw l cf, e, H, Q, h => by
    obtain ⟨e', H', h1, h2, h3⟩ := opsD_det l [] e H [] h
    exact ⟨.normal, e', H', fun Q' hq => h1 _ hq, h2, h3⟩
  | .seq a b, e, H, Q, h => by
    obtain ⟨x, e1, H1, h1, h2, h3⟩ := CW_det a e H _ h
    cases x with
    | normal =>
      obtain ⟨y, e2, H2, g1, g2, g3⟩ := CW_det b e1 H1 _ h3
      exact ⟨y, e2, H2, fun Q' hq => h1 _ (g1 Q' hq), by omega, g3⟩
    | exit id => exact ⟨.exit id, e1, H1, fun Q' hq => h1 _ hq, h2, h3⟩
    | ret => exact ⟨.ret, e1, H1, fun Q' hq => h1 _ hq, h2, h3⟩
  | .cond c a b, e, H, Q, h => by
    simp only [CW] at h
    split at h
    · rename_i hv
      obtain ⟨x, e1, H1, h1, h2, h3⟩ := CW_det a e H _ h
      exact ⟨x, e1, H1, fun Q' hq => by simp only [CW, hv]; exact h1 Q' hq, h2, h3⟩
    · rename_i hv
      obtain ⟨x, e1, H1, h1, h2, h3⟩ := CW_det b e H _ h
      exact ⟨x, e1, H1, fun Q' hq => by simp only [CW, hv]; exact h1 Q' hq, h2, h3⟩
    · exact h.elim
  | .block id a, e, H, Q, h => by
    obtain ⟨x, e1, H1, h1, h2, h3⟩ := CW_det a e H _ h
    cases x with
    | normal => exact ⟨.normal, e1, H1, fun Q' hq => h1 _ hq, h2, h3⟩
    | exit id' =>
      by_cases hid : id' = id
      · simp only [hid, if_true] at h3
        exact ⟨.normal, e1, H1, fun Q' hq => h1 _ (by simp only [hid, if_true]; exact hq), h2, h3⟩
      · simp only [hid, if_false] at h3
        exact ⟨.exit id', e1, H1, fun Q' hq => h1 _ (by simp only [hid, if_false]; exact hq), h2, h3⟩
    | ret => exact ⟨.ret, e1, H1, fun Q' hq => h1 _ hq, h2, h3⟩
  | .loop a, e, H, Q, h => by
    obtain ⟨n, hn⟩ := h
    have key : ∀ (n : Nat) (e : Env) (H : AHeap), loopN (CW P w0 a) Q n e H → ∃ x e' H', (∀ Q' : AX → Env → AHeap → Prop, Q' x e' H' → loopN (CW P w0 a) Q' n e H) ∧ H.n ≤ H'.n ∧ Q x e' H' := by
      intro n
      induction n with
      | zero => intro e H h; exact h.elim
      | succ n ih =>
        intro e H h
        obtain ⟨x, e1, H1, h1, h2, h3⟩ := CW_det a e H _ h
        cases x with
        | normal =>
          obtain ⟨y, e2, H2, g1, g2, g3⟩ := ih e1 H1 h3
          exact ⟨y, e2, H2, fun Q' hq => h1 _ (g1 Q' hq), by omega, g3⟩
        | exit id => exact ⟨.exit id, e1, H1, fun Q' hq => h1 _ hq, h2, h3⟩
        | ret => exact ⟨.ret, e1, H1, fun Q' hq => h1 _ hq, h2, h3⟩
    obtain ⟨x, e', H', h1, h2, h3⟩ := key n e H hn
    exact ⟨x, e', H', fun Q' hq => ⟨n, h1 Q' hq⟩, h2, h3⟩
  | .exit id, e, H, Q, h => ⟨.exit id, e, H, fun Q' h => h, Nat.le_refl _, h⟩
  | .ret, e, H, Q, h => ⟨.ret, e, H, fun Q' h => h, Nat.le_refl _, h⟩

theorem CW_mono {a : AC} {Q Q' : AX → Env → AHeap → Prop} (h : CW P w0 a e H Q) (hi : ∀ x e' H', H.n ≤ H'.n → Q x e' H' → Q' x e' H') : CW P w0 a e H Q' :=
  let ⟨_, _, _, h1, h2, h3⟩ := CW_det a e H Q h
  h1 _ (hi _ _ _ h2 h3)

/-- A function's contract, from its body. -/
theorem rets_fun {f : FuncId} {fn : Func} {pv : List Nat} {ac : AC} {rs : List ARes} {args : List Value} {Φ : Value → AHeap → Prop} (hf : P.funcs[f]? = some fn) (hc : cfun P pv fn = some (ac, rs))
    (h : Body P w0 ac rs args H Φ) : Rets P w0 f args H Φ := by
  obtain ⟨x, e', H', h1, h2, h3⟩ := CW_det _ _ _ _ h
  have key : ∀ vs, resL e' H' rs = some vs → (∀ Q' : AX → Env → AHeap → Prop, Q' x e' H' → CW P w0 ac (env0 args) H Q') → (∀ id, x ≠ .exit id) → Φ (oneV vs) H' → Rets P w0 f args H Φ := fun vs hvs hcw hx hΦ => by
    refine ⟨oneV vs, H', callS_fun hf hc (hcw _ ?_), h2, hΦ⟩
    cases x with
    | normal => simp only [hvs, and_self]
    | ret => simp only [hvs, and_self]
    | exit id => exact (hx id rfl).elim
  cases x with
  | normal =>
    simp only at h3
    split at h3
    · rename_i vs hvs; exact key vs hvs h1 (fun _ h => by cases h) h3
    · exact h3.elim
  | ret =>
    simp only at h3
    split at h3
    · rename_i vs hvs; exact key vs hvs h1 (fun _ h => by cases h) h3
    · exact h3.elim
  | exit id => exact h3.elim

/-! ### Steps -/
def seqK (P : Program) (w0 : World) (b : AC) (Q : AX → Env → AHeap → Prop) : AX → Env → AHeap → Prop := fun x e H => match x with
  | .normal => CW P w0 b e H Q
  | x => Q x e H
def blockK (id : Nat) (Q : AX → Env → AHeap → Prop) : AX → Env → AHeap → Prop := fun x e H => match x with
  | .exit id' => if id' = id then Q .normal e H else Q (.exit id') e H
  | x => Q x e H
def loopK (P : Program) (w0 : World) (a : AC) (Q : AX → Env → AHeap → Prop) (n : Nat) : AX → Env → AHeap → Prop := fun x e H => match x with
  | .normal => loopN (CW P w0 a) Q n e H
  | x => Q x e H
def bodyK (rs : List ARes) (Q : Value → AHeap → Prop) : AX → Env → AHeap → Prop := fun x e H => match x with
  | .exit _ => False
  | _ => match resL e H rs with
    | some vs => Q (oneV vs) H
    | none => False
def condK (v : Option Value) (A B : Prop) : Prop := match v with
  | some (.bool true) => A
  | some (.bool false) => B
  | _ => False

variable {Q : AX → Env → AHeap → Prop} {a b : AC} {l : List AOper} {cf : List (Nat × Nat)} {c : AOpd} {id id' : Nat} {A B : Prop}
theorem CW_skip : CW P w0 .skip e H Q = Q .normal e H := rfl
theorem CW_ops : CW P w0 (.ops l) e H Q = opsW P w0 l [] e H (Q .normal) := rfl
theorem CW_draw : CW P w0 (.draw l cf) e H Q = opsD P w0 cf l [] e H [] (Q .normal) := rfl
theorem CW_seq : CW P w0 (.seq a b) e H Q = CW P w0 a e H (seqK P w0 b Q) := rfl
theorem CW_cond : CW P w0 (.cond c a b) e H Q = condK (ev [] e c) (CW P w0 a e H Q) (CW P w0 b e H Q) := rfl
theorem CW_block : CW P w0 (.block id a) e H Q = CW P w0 a e H (blockK id Q) := rfl
theorem CW_exit : CW P w0 (.exit id) e H Q = Q (.exit id) e H := rfl
theorem CW_ret : CW P w0 .ret e H Q = Q .ret e H := rfl
theorem seqK_normal : seqK P w0 b Q .normal e H = CW P w0 b e H Q := rfl
theorem seqK_exit : seqK P w0 b Q (.exit id) e H = Q (.exit id) e H := rfl
theorem seqK_ret : seqK P w0 b Q .ret e H = Q .ret e H := rfl
theorem blockK_normal : blockK id Q .normal e H = Q .normal e H := rfl
theorem blockK_ret : blockK id Q .ret e H = Q .ret e H := rfl
theorem blockK_exit : blockK id Q (.exit id') e H = if id' = id then Q .normal e H else Q (.exit id') e H := rfl
theorem loopK_exit {n : Nat} : loopK P w0 b Q n (.exit id) e H = Q (.exit id) e H := rfl
theorem loopK_ret {n : Nat} : loopK P w0 b Q n .ret e H = Q .ret e H := rfl
theorem loopK_normal {n : Nat} : loopK P w0 b Q n .normal e H = loopN (CW P w0 b) Q n e H := rfl
theorem bodyK_ret {rs : List ARes} {Q : Value → AHeap → Prop} : bodyK rs Q .ret e H = (match resL e H rs with
    | some vs => Q (oneV vs) H
    | none => False) := rfl
theorem bodyK_normal {rs : List ARes} {Q : Value → AHeap → Prop} : bodyK rs Q .normal e H = (match resL e H rs with
    | some vs => Q (oneV vs) H
    | none => False) := rfl
theorem condK_bool {p : Bool} : condK (some (.bool p)) A B = ((p = true → A) ∧ (p = false → B)) := by cases p <;> simp [condK]
theorem condK_of {p : Bool} (h1 : p = true → A) (h2 : p = false → B) : condK (some (.bool p)) A B := by rw [condK_bool]; exact ⟨h1, h2⟩

/-- A loop: what holds ahead of each round, with how many rounds are left at the most. -/
theorem CW_loop (I : Nat → Env → AHeap → Prop) (n : Nat) (h0 : I n e H) (hs : ∀ n e H, I n e H → CW P w0 a e H (fun x e' H' => match x with
    | .normal => ∃ m, m < n ∧ I m e' H'
    | x => Q x e' H')) : CW P w0 (.loop a) e H Q := by
  have key : ∀ n, ∀ e H, I n e H → ∃ k, loopN (CW P w0 a) Q k e H := by
    intro n
    induction n using Nat.strongRecOn with
    | ind n ih =>
      intro e H hI
      obtain ⟨x, e', H', h1, _, h3⟩ := CW_det _ _ _ _ (hs n e H hI)
      cases x with
      | normal =>
        obtain ⟨m, hm, hI'⟩ := h3
        obtain ⟨k, hk⟩ := ih m hm e' H' hI'
        exact ⟨k + 1, h1 _ hk⟩
      | exit id => exact ⟨1, h1 _ h3⟩
      | ret => exact ⟨1, h1 _ h3⟩
  exact key n e H h0

theorem body_of {ac : AC} {rs : List ARes} {args : List Value} {Q : Value → AHeap → Prop} (h : CW P w0 ac (env0 args) H (bodyK rs Q)) : Body P w0 ac rs args H Q := by
  refine CW_mono h fun x e' H' _ hx => ?_
  cases x <;> exact hx

def isCall : AOp → Bool
  | .call _ _ | .callv _ _ => true
  | _ => false
def thenO (r : Option (Value × AHeap)) (K : Value → AHeap → Prop) : Prop := match r with
  | some (v, H) => K v H
  | none => False
theorem thenO_some {v : Value} {K : Value → AHeap → Prop} : thenO (some (v, H)) K = K v H := rfl
variable {rs : List Value} {d : Option Nat} {q : AOp} {K : Env → AHeap → Prop} {tr : List Rec}
theorem opsW_nil : opsW P w0 [] rs e H K = K e H := rfl
theorem opsW_op (hq : isCall q = false) : opsW P w0 (⟨d, none, q⟩ :: l) rs e H K = thenO (aop q (ev rs e) H) fun v H' => opsW P w0 l (v :: rs) (e.put d v) H' K := by
  rw [opsW]
  simp only [gd]
  cases q <;> first | rfl | (simp [isCall] at hq)
def guardK (g : Option Bool) (A B : Prop) : Prop := match g with
  | some true => A
  | some false => B
  | none => False
theorem guardK_true : guardK (some true) A B = A := rfl
theorem guardK_false : guardK (some false) A B = B := rfl
theorem guardK_bool {p : Bool} : guardK (some p) A B = ((p = true → A) ∧ (p = false → B)) := by cases p <;> simp [guardK]
theorem opsW_opg {g : Nat × Bool} (hq : isCall q = false) : opsW P w0 (⟨d, some g, q⟩ :: l) rs e H K = guardK (gd rs (some g)) (thenO (aop q (ev rs e) H) fun v H' => opsW P w0 l (v :: rs) (e.put d v) H' K) (opsW P w0 l (undef :: rs) (e.put d undef) H K) := by
  rw [opsW]
  cases hg : gd rs (some g) with
  | none => simp only [guardK]
  | some b =>
    cases b
    · simp only [guardK]
    · simp only [guardK]
      cases q <;> first | rfl | (simp [isCall] at hq)
def callK (P : Program) (w0 : World) (f : FuncId) (vs : Option (List Value)) (H : AHeap) (Φ : Value → AHeap → Prop) : Prop := match vs with
  | some vs => Rets P w0 f vs H Φ
  | none => False
theorem callK_some {f : FuncId} {vs : List Value} {Φ : Value → AHeap → Prop} : callK P w0 f (some vs) H Φ = Rets P w0 f vs H Φ := rfl
theorem opsW_call {f : FuncId} {xs : List AOpd} : opsW P w0 (⟨d, none, .call f xs⟩ :: l) rs e H K = callK P w0 f (evs (ev rs e) xs) H fun v H' => opsW P w0 l (v :: rs) (e.put d v) H' K := by
  rw [opsW]; simp only [gd]; rfl
theorem opsW_callg {g : Nat × Bool} {f : FuncId} {xs : List AOpd} : opsW P w0 (⟨d, some g, .call f xs⟩ :: l) rs e H K = guardK (gd rs (some g)) (callK P w0 f (evs (ev rs e) xs) H fun v H' => opsW P w0 l (v :: rs) (e.put d v) H' K) (opsW P w0 l (undef :: rs) (e.put d undef) H K) := by
  rw [opsW]
  cases hg : gd rs (some g) with
  | none => simp only [guardK]
  | some b => cases b <;> rfl
def callvK (P : Program) (w0 : World) (t : Option Value) (vs : Option (List Value)) (H : AHeap) (Φ : Value → AHeap → Prop) : Prop := match t, vs with
  | some t, some vs => (match target t with
    | some (f, fs, cs) => callable P f = true ∧ Rets P w0 f (fs ++ vs ++ cs) H Φ
    | none => False)
  | _, _ => False
theorem callvK_func {f : FuncId} {fs cs : Array Value} {vs : List Value} {Φ : Value → AHeap → Prop} : callvK P w0 (some (.func (.func f) fs cs)) (some vs) H Φ = (callable P f = true ∧ Rets P w0 f (fs.toList ++ vs ++ cs.toList) H Φ) := rfl
theorem opsW_callv {x : AOpd} {xs : List AOpd} : opsW P w0 (⟨d, none, .callv x xs⟩ :: l) rs e H K = callvK P w0 (ev rs e x) (evs (ev rs e) xs) H fun v H' => opsW P w0 l (v :: rs) (e.put d v) H' K := by
  rw [opsW]; simp only [gd]; rfl
theorem opsW_callvg {g : Nat × Bool} {x : AOpd} {xs : List AOpd} : opsW P w0 (⟨d, some g, .callv x xs⟩ :: l) rs e H K = guardK (gd rs (some g)) (callvK P w0 (ev rs e x) (evs (ev rs e) xs) H fun v H' => opsW P w0 l (v :: rs) (e.put d v) H' K) (opsW P w0 l (undef :: rs) (e.put d undef) H K) := by
  rw [opsW]
  cases hg : gd rs (some g) with
  | none => simp only [guardK]
  | some b => cases b <;> rfl

theorem opsD_nil : opsD P w0 cf [] rs e H tr K = (condsD cf tr ∧ K e H) := rfl
theorem condsD_nil : condsD [] tr = True := by simp [condsD]
/-- Where nothing has to be looked at: as if in its order. -/
theorem opsD_opsW : ∀ (l : List AOper) (rs : List Value) (e : Env) (H : AHeap) (tr : List Rec), opsW P w0 l rs e H K → opsD P w0 [] l rs e H tr K
  | [], rs, e, H, tr, h => ⟨fun p hp => by simp at hp, h⟩
  | o :: l, rs, e, H, tr, h => by
    unfold opsW at h
    split at h
    · rename_i hg
      rw [opsD]; simp only [hg]; exact opsD_opsW l _ _ _ _ h
    · rename_i hg
      split at h
      · rename_i f xs hop
        split at h
        · rename_i vs hvs
          obtain ⟨v, H1, hc, hn, hr⟩ := h
          rw [opsD]; simp only [hg, hop, hvs]
          exact ⟨v, H1, hc, hn, opsD_opsW l _ _ _ _ hr⟩
        · exact h.elim
      · rename_i x xs hop
        split at h
        · rename_i t vs ht hvs
          split at h
          · rename_i f fs cs htg
            obtain ⟨hcb, v, H1, hc, hn, hr⟩ := h
            rw [opsD]; simp only [hg, hop, ht, hvs, htg]
            exact ⟨hcb, v, H1, hc, hn, opsD_opsW l _ _ _ _ hr⟩
          · exact h.elim
        · exact h.elim
      · rename_i hno1 hno2
        split at h
        · rename_i v H1 hv
          rw [opsD]; simp only [hg]
          simp only [hv]; exact opsD_opsW l _ _ _ _ h
        · exact h.elim
    · exact h.elim
theorem CW_draw0 (h : opsW P w0 l [] e H (Q .normal)) : CW P w0 (.draw l []) e H Q := opsD_opsW l [] e H [] h
end Go.AB
