/- Own framework, part 9: code and functions. -/
import Derived.Test.YtnbamdhmhnhneaaB14
set_option linter.unusedVariables false
set_option linter.unusedSimpArgs false
namespace Go.AB
open Go.RowKit
variable {P : Program} {w0 w : World} {ι : Inj} {H H' : AHeap} {pv : List Nat} {nt : Nat} {e : Env} {a : Act}

theorem lift_seq {Q : AX → Env → AHeap → Prop} {y : Code} {b : AC} (hR : RelH P w0 ι H w) (ih : ∀ ι e H a w, Sat P w0 pv nt ι e H a w → CW P w0 b e H Q → y.wp P (Lift P w0 pv nt ι H w Q) a w) {ex : Exit} {a' : Act} {w' : World}
    (h : Lift P w0 pv nt ι H w (fun x e H => match x with | .normal => CW P w0 b e H Q | x => Q x e H) ex a' w') : Exit.then (y.wp P (Lift P w0 pv nt ι H w Q)) (Lift P w0 pv nt ι H w Q) ex a' w' := by
  obtain ⟨x, ι', e', H', rfl, hS, hF, hQ⟩ := h
  cases x with
  | normal =>
    show y.wp P _ a' w'
    exact Code.wp_mono (fun ex a2 w2 h2 => Lift.trans hR hS.rel hF h2) (ih _ _ _ _ _ hS hQ)
  | exit id => exact ⟨.exit id, ι', e', H', rfl, hS, hF, hQ⟩
  | ret => exact ⟨.ret, ι', e', H', rfl, hS, hF, hQ⟩

theorem least_of (p : Nat → Prop) (h : ∃ n, p n) : ∃ n, p n ∧ ∀ m, p m → n ≤ m := by
  obtain ⟨n, hn⟩ := h
  induction n using Nat.strongRecOn with
  | _ n ih =>
    by_cases hm : ∃ m, m < n ∧ p m
    · obtain ⟨m, hlt, hpm⟩ := hm
      exact ih m hlt hpm
    · exact ⟨n, hn, fun m hpm => Nat.le_of_not_lt fun h => hm ⟨m, h, hpm⟩⟩

open Classical in
theorem cw_sound : ∀ (c : Code) (ac : AC) (Q : AX → Env → AHeap → Prop) (ι : Inj) (e : Env) (H : AHeap) (a : Act) (w : World), ccode P pv nt c = some ac → Sat P w0 pv nt ι e H a w → CW P w0 ac e H Q → c.wp P (Lift P w0 pv nt ι H w Q) a w
  | .skip, ac, Q, ι, e, H, a, w, hc, hS, hW => by
    simp only [ccode, Option.some.injEq] at hc; subst hc
    exact wp_skip ⟨.normal, ι, e, H, rfl, hS, Frame.refl _ _ _, hW⟩
  | .region id ops false, ac, Q, ι, e, H, a, w, hc, hS, hW => by
    simp only [ccode] at hc
    obtain ⟨l, hl, rfl⟩ := Option.map_eq_some_iff.1 hc
    refine wp_region_list (ops_sound ops ops.toList [] l [] ι e H a w _ _ (fun j => by simp) (fun j hj => by simp at hj) hl hS ⟨rfl, fun k d h => by simp at h⟩ hW ?_)
    intro ι' e' H' a' w' hS' hF hK
    exact ⟨.normal, ι', e', H', rfl, hS', hF, hK⟩
  | .region id ops true, ac, Q, ι, e, H, a, w, hc, hS, hW => by
    simp only [ccode] at hc
    have hc' := hc
    simp only [cdraw] at hc'
    split at hc'
    case h_2 => cases hc'
    split at hc'
    case isFalse => cases hc'
    cases hc'
    exact draw_sound hc hS hW fun ι' e' H' a' w' hS' hF hK => ⟨.normal, ι', e', H', rfl, hS', hF, hK⟩
  | .seq x y, ac, Q, ι, e, H, a, w, hc, hS, hW => by
    simp only [ccode] at hc
    split at hc
    · rename_i p q hp hq
      cases hc
      exact wp_seq (Code.wp_mono (fun ex a' w' h => lift_seq hS.rel (fun ι e H a w hS hW => cw_sound y q Q ι e H a w hq hS hW) h) (cw_sound x p _ ι e H a w hp hS hW))
    · cases hc
  | .cond c x y, ac, Q, ι, e, H, a, w, hc, hS, hW => by
    simp only [ccode] at hc
    split at hc
    · rename_i c' p q hcc hp hq
      cases hc
      have hm := mopd_opds (ds := []) (rs := []) (ts := tmpsOf #[c]) hS ⟨rfl, fun k d h => by simp at h⟩
      simp only [CW] at hW
      split at hW
      · rename_i hv
        exact wp_cond_true (bool_of (hm _ _ _ hcc hv)) (cw_sound x p Q ι e H a w hp hS hW)
      · rename_i hv
        exact wp_cond_false (bool_of (hm _ _ _ hcc hv)) (cw_sound y q Q ι e H a w hq hS hW)
      · exact hW.elim
    · cases hc
  | .block id x, ac, Q, ι, e, H, a, w, hc, hS, hW => by
    simp only [ccode] at hc
    obtain ⟨p, hp, rfl⟩ := Option.map_eq_some_iff.1 hc
    refine wp_block (Code.wp_mono ?_ (cw_sound x p _ ι e H a w hp hS hW))
    rintro ex a' w' ⟨x, ι', e', H', rfl, hS', hF, hQ⟩
    cases x with
    | normal => exact ⟨.normal, ι', e', H', rfl, hS', hF, hQ⟩
    | exit id' =>
      show Exit.inBlock id _ (.exit id') a' w'
      simp only [Exit.inBlock]
      split
      · rename_i h; simp only [h, if_true] at hQ; exact ⟨.normal, ι', e', H', rfl, hS', hF, hQ⟩
      · rename_i h; simp only [h, if_false] at hQ; exact ⟨.exit id', ι', e', H', rfl, hS', hF, hQ⟩
    | ret => exact ⟨.ret, ι', e', H', rfl, hS', hF, hQ⟩
  | .loop x, ac, Q, ι, e, H, a, w, hc, hS, hW => by
    simp only [ccode] at hc
    obtain ⟨p, hp, rfl⟩ := Option.map_eq_some_iff.1 hc
    obtain ⟨n, hn⟩ := hW
    let J : Nat → Act → World → Prop := fun n a' w' => ∃ ι' e' H', Sat P w0 pv nt ι' e' H' a' w' ∧ Frame ι H w ι' H' w' ∧ loopN (CW P w0 p) Q n e' H'
    let μ : Act → World → Nat := fun a' w' => if h : ∃ n, J n a' w' then Classical.choose (least_of (fun n => J n a' w') h) else 0
    refine wp_loop (fun a' w' => ∃ n, J n a' w') μ ⟨n, ι, e, H, hS, Frame.refl _ _ _, hn⟩ ?_
    intro a1 w1 hI
    have hμ : μ a1 w1 = Classical.choose (least_of (fun n => J n a1 w1) hI) := by simp only [μ]; rw [dif_pos hI]
    have hsp := (Classical.choose_spec (least_of (fun n => J n a1 w1) hI)).1
    rw [← hμ] at hsp
    obtain ⟨ι1, e1, H1, hS1, hF1, hL⟩ := hsp
    obtain ⟨m, hm⟩ : ∃ m, μ a1 w1 = m + 1 := by
      cases hfi : μ a1 w1 with
      | zero => rw [hfi] at hL; exact hL.elim
      | succ m => exact ⟨m, rfl⟩
    rw [hm] at hL
    refine Code.wp_mono ?_ (cw_sound x p _ ι1 e1 H1 a1 w1 hp hS1 hL)
    rintro ex a' w' ⟨y, ι', e', H', rfl, hS', hF, hQ⟩
    have hF' := Frame.trans hS.rel hS1.rel hF1 hF
    cases y with
    | normal =>
      have hJ : J m a' w' := ⟨ι', e', H', hS', hF', hQ⟩
      refine ⟨⟨m, hJ⟩, ?_⟩
      rw [hm]
      have h2 : μ a' w' = Classical.choose (least_of (fun n => J n a' w') ⟨m, hJ⟩) := by simp only [μ]; rw [dif_pos ⟨m, hJ⟩]
      rw [h2]
      exact Nat.lt_succ_of_le ((Classical.choose_spec (least_of (fun n => J n a' w') ⟨m, hJ⟩)).2 m hJ)
    | exit id => exact ⟨.exit id, ι', e', H', rfl, hS', hF', hQ⟩
    | ret => exact ⟨.ret, ι', e', H', rfl, hS', hF', hQ⟩
  | .exit id, ac, Q, ι, e, H, a, w, hc, hS, hW => by
    simp only [ccode, Option.some.injEq] at hc; subst hc
    exact wp_exit ⟨.exit id, ι, e, H, rfl, hS, Frame.refl _ _ _, hW⟩
  | .ret, ac, Q, ι, e, H, a, w, hc, hS, hW => by
    simp only [ccode, Option.some.injEq] at hc; subst hc
    exact wp_ret ⟨.ret, ι, e, H, rfl, hS, Frame.refl _ _ _, hW⟩
  | .rangeFunc _ _ _ _, ac, Q, ι, e, H, a, w, hc, hS, hW => by simp [ccode] at hc
  | .scope _, ac, Q, ι, e, H, a, w, hc, hS, hW => by simp [ccode] at hc
  | .label _, ac, Q, ι, e, H, a, w, hc, hS, hW => by simp [ccode] at hc
  | .goto _, ac, Q, ι, e, H, a, w, hc, hS, hW => by simp [ccode] at hc
  | .refuse _, ac, Q, ι, e, H, a, w, hc, hS, hW => by simp [ccode] at hc

/-! ### Functions -/
inductive ARes where
  | t (t : Nat)
  | c (t : Nat)
  | cn (t n : Nat)

def cres (P : Program) (pv : List Nat) : List ResultVar → Option (List ARes)
  | [] => some []
  | .tmp t :: r => match cres P pv r with
    | some r => if pv.contains t then some (.t t :: r) else none
    | none => none
  | .cell t ty :: r => match cres P pv r, aggB P ty, sizeQ P ty with
    | some r, some true, some n => if pv.contains t then some (.cn t n :: r) else none
    | some r, some false, some _ => if pv.contains t then some (.c t :: r) else none
    | _, _, _ => none

def resV (e : Env) (H : AHeap) : ARes → Option Value
  | .t t => e t
  | .c t => (aop (.ld (.v t)) (ev [] e) H).map (·.1)
  | .cn t n => (aop (.ldn n (.v t)) (ev [] e) H).map (·.1)

def resL (e : Env) (H : AHeap) : List ARes → Option (List Value)
  | [] => some []
  | r :: rs => match resV e H r, resL e H rs with
    | some v, some vs => some (v :: vs)
    | _, _ => none

def oneV : List Value → Value
  | [v] => v
  | vs => .tuple vs.toArray

theorem agg_run {t : TypeId} {b : Bool} (hag : aggB P t = some b) : (isAgg t).run P w = .ok b w := by
  unfold aggB at hag
  split at hag
  · rename_i fs hu; cases hag; simp [isAgg, run_underlying hu]
  · rename_i k e hu; cases hag; simp [isAgg, run_underlying hu]
  · rename_i d hn1 hn2 hu
    cases hag
    cases d <;> first
      | (exact (hn1 _ rfl).elim)
      | (exact (hn2 _ _ rfl).elim)
      | (simp [isAgg, run_underlying hu])
  · cases hag

/-- What a result's variable holds. -/
theorem res_load (hH : RelH P w0 ι H w) {ty : TypeId} {b : Bool} {n : Nat} (hag : aggB P ty = some b) (hsz : sizeQ P ty = some n) {ρ : AOpd → Option Value} {x : AOpd} {p p' v : Value} (hp : ρ x = some p) (hr : RelV ι p p')
    (hv : (aop (if b then .ldn n x else .ld x) ρ H).map (·.1) = some v) : ∃ v', RelV ι v v' ∧ ((do loadVar ty (← asAddr p')) : Sem Value).run P w = .ok v' w := by
  obtain ⟨⟨v0, H0⟩, hq, rfl⟩ := Option.map_eq_some_iff.1 hv
  cases b with
  | true =>
    simp only [if_true, aop] at hq
    split at hq
    · rename_i ad e1
      rw [hp] at e1; cases e1
      split at hq
      · rename_i vs hvs
        split at hq
        · rename_i ws hws
          cases hq
          cases hr with
          | ptr hb =>
            rename_i b off i
            obtain ⟨o1, ys, hr, hcell⟩ := cells_rel hH hb hvs hws
            have hn := (seg_eq hws).2.2
            have hlen : ys.length = n := by rw [← hr.1]; exact hn
            obtain ⟨ti, hti, hti'⟩ := Option.map_eq_some_iff.1 hsz
            have hld := run_loadCells_list (P := P) w ⟨i.cb, off + i.d, none⟩ ys (fun j y hj => by rw [Addr.add_lit]; exact hcell j y hj)
            rw [hlen] at hld
            refine ⟨.agg ys.toArray, RelV.agg_list o1 hr, ?_⟩
            simp only [loadVar, sizeOf, typeInfo, asAddr]
            simp [agg_run hag, hti, hti', hld]
        · cases hq
      · cases hq
    · cases hq
  | false =>
    simp only [Bool.false_eq_true, if_false, aop] at hq
    split at hq
    · rename_i ad e1
      rw [hp] at e1; cases e1
      split at hq
      · rename_i vs hvs
        split at hq
        · rename_i u hu
          cases hq
          cases hr with
          | ptr hb =>
            rename_i b off i
            obtain ⟨o1, y, hy, r⟩ := cell_rel hH hb hvs hu
            refine ⟨y, r, ?_⟩
            rw [Nat.add_comm] at hy
            simp only [loadVar, asAddr]
            simp [agg_run hag, hy]
        · cases hq
      · cases hq
    · cases hq

theorem res_sound (hS : Sat P w0 pv nt ι e H a w) : ∀ {rs : List ResultVar} {as : List ARes} {vs : List Value}, cres P pv rs = some as → resL e H as = some vs →
    ∃ cs, RelL ι vs cs ∧ ((rs.mapM fun | .tmp t => pure (a.tmps.getD t undef) | .cell ad t => do loadVar t (← asAddr (a.tmps.getD ad undef))) : Sem (List Value)).run P w = .ok cs w
  | [], as, vs, h, k => by
    simp only [cres, Option.some.injEq] at h; subst h
    simp only [resL, Option.some.injEq] at k; subst k
    exact ⟨[], .nil, rfl⟩
  | .tmp t :: rs, as, vs, h, k => by
    simp only [cres] at h
    split at h
    · rename_i r hr
      split at h
      · rename_i hpv
        cases h
        simp only [resL] at k
        split at k
        · rename_i v vs' hv hvs
          cases k
          obtain ⟨cs, hrel, hrun⟩ := res_sound hS hr hvs
          have hv' := hS.env t v hpv hv
          refine ⟨a.tmps.getD t undef :: cs, .cons hv' hrel, ?_⟩
          rw [List.mapM_cons, Sem.run_bind]
          simp only [Sem.run_pure, Result.andThen_ok, Sem.run_bind, hrun]
        · cases k
      · cases h
    · cases h
  | .cell t ty :: rs, as, vs, h, k => by
    simp only [cres] at h
    obtain ⟨r, b, n, hr, hag, hsz, hpv, rfl⟩ : ∃ r b n, cres P pv rs = some r ∧ aggB P ty = some b ∧ sizeQ P ty = some n ∧ pv.contains t = true ∧ as = (if b then .cn t n else .c t) :: r := by
      split at h
      · rename_i r n hr hag hsz
        split at h
        · rename_i hpv; cases h; exact ⟨r, true, n, hr, hag, hsz, hpv, rfl⟩
        · cases h
      · rename_i r n hr hag hsz
        split at h
        · rename_i hpv; cases h; exact ⟨r, false, n, hr, hag, hsz, hpv, rfl⟩
        · cases h
      · cases h
    simp only [resL] at k
    split at k
    · rename_i v vs' hv hvs
      cases k
      obtain ⟨cs, hrel, hrun⟩ := res_sound hS hr hvs
      have hv2 : (aop (if b then .ldn n (.v t) else .ld (.v t)) (ev [] e) H).map (·.1) = some v := by
        cases b <;> exact hv
      have hp : ∃ p, e t = some p := by
        cases het : e t with
        | some p => exact ⟨p, rfl⟩
        | none => cases b <;> simp [aop, ev, het] at hv2
      obtain ⟨p, hp⟩ := hp
      obtain ⟨v', hvr, hvrun⟩ := res_load hS.rel hag hsz (ρ := ev [] e) (x := .v t) hp (hS.env t p hpv hp) hv2
      refine ⟨v' :: cs, .cons hvr hrel, ?_⟩
      rw [List.mapM_cons, Sem.run_bind]
      rw [hvrun]
      simp only [Result.andThen_ok, Sem.run_bind, hrun, Sem.run_pure]
    · cases k

theorem results_run {fn : Func} {cs : List Value} (h : ((fn.results.toList.mapM fun | .tmp t => pure (a.tmps.getD t undef) | .cell ad t => do loadVar t (← asAddr (a.tmps.getD ad undef))) : Sem (List Value)).run P w = .ok cs w) :
    (results fn a.tmps).run P w = .ok (oneV cs) w := by
  have h2 : ((fn.results.mapM fun | .tmp t => pure (a.tmps.getD t undef) | .cell ad t => do loadVar t (← asAddr (a.tmps.getD ad undef))) : Sem (Array Value)).run P w = .ok cs.toArray w := by
    rw [Array.mapM_eq_mapM_toList, Sem.run_map, h]; rfl
  have h3 : (results fn a.tmps).run P w = Result.andThen (Sem.run P ((fn.results.mapM fun | .tmp t => pure (a.tmps.getD t undef) | .cell ad t => do loadVar t (← asAddr (a.tmps.getD ad undef))) : Sem (Array Value)) w) (fun vs w' => .ok (if h : vs.size = 1 then vs[0] else .tuple vs) w') := by
    unfold results
    rw [Sem.run_bind]
    rfl
  rw [h3, h2]
  simp only [Result.andThen_ok]
  congr 1
  match cs with
  | [] => rfl
  | [v] => rfl
  | v :: u :: r => simp [oneV]

theorem oneV_rel {vs cs : List Value} (h : RelL ι vs cs) : RelV ι (oneV vs) (oneV cs) := by
  match vs, cs, h with
  | [], [], h => exact RelV.tuple_list h
  | [v], [c], h => exact h.head
  | v :: u :: r, c :: d :: s, h => exact RelV.tuple_list h
  | [], _ :: _, h => have := h.1; simp at this
  | [_], [], h => have := h.1; simp at this
  | [_], _ :: _ :: _, h => have := h.1; simp at this
  | _ :: _ :: _, [], h => have := h.1; simp at this
  | _ :: _ :: _, [_], h => have := h.1; simp at this

/-- The variables at a function's beginning. -/
def env0 (args : List Value) : Env := fun t => args[t]?

/-- What is to be shown of a function's body. -/
def Body (P : Program) (w0 : World) (ac : AC) (rs : List ARes) (args : List Value) (H : AHeap) (Q : Value → AHeap → Prop) : Prop :=
  CW P w0 ac (env0 args) H fun x e H' => match x with
    | .exit _ => False
    | _ => match resL e H' rs with
      | some vs => Q (oneV vs) H'
      | none => False

theorem callS_of {f : FuncId} {fn : Func} {c : Code} {ac : AC} {rs : List ARes} {args : List Value} {Q : Value → AHeap → Prop} (pv : List Nat) (hf : P.funcs[f]? = some fn) (hb : fn.body = some c) (hc : ccode P pv fn.ntmps c = some ac) (hr : cres P pv fn.results.toList = some rs)
    (h : Body P w0 ac rs args H Q) : CallS P w0 f args H Q := by
  intro ι w cargs hH hrel
  refine calls_of_wp hf hb ?_
  have hS : Sat P w0 pv fn.ntmps ι (env0 args) H { tmps := cargs.toArray ++ Array.replicate (fn.ntmps - cargs.toArray.size) undef, defers := [] } w := by
    refine ⟨hH, by simp; omega, rfl, fun t v ht hv => ?_⟩
    simp only [env0] at hv
    obtain ⟨y, hy, hr⟩ := hrel.get hv
    have hlt : t < cargs.length := (List.getElem?_eq_some_iff.1 hy).1
    have : (cargs.toArray ++ Array.replicate (fn.ntmps - cargs.toArray.size) undef).getD t undef = y := by
      rw [Array.getD_eq_getD_getElem?, Array.getElem?_append_left (by simpa using hlt)]
      simp [hy]
    rw [this]; exact hr
  refine Code.wp_mono ?_ (cw_sound c ac _ ι _ H _ w hc hS h)
  rintro ex a' w' ⟨x, ι', e', H', rfl, hS', hF, hQ⟩
  have key : ∀ x : AX, (match x with | .exit _ => False | _ => match resL e' H' rs with | some vs => Q (oneV vs) H' | none => False) → (∀ id, x ≠ .exit id) → ∃ v, (results fn a'.tmps).run P w' = .ok v w' ∧
      ∃ ι'' v0 v' H'', Ending.returned v = .returned v' ∧ RelH P w0 ι'' H'' w' ∧ RelV ι'' v0 v' ∧ Frame ι H w ι'' H'' w' ∧ Q v0 H'' := fun x hx hne => by
    have hx' : match resL e' H' rs with | some vs => Q (oneV vs) H' | none => False := by
      cases x with
      | normal => exact hx
      | ret => exact hx
      | exit id => exact hx.elim
    split at hx'
    · rename_i vs hvs
      obtain ⟨cs, hrl, hrun⟩ := res_sound hS' hr hvs
      exact ⟨oneV cs, results_run hrun, ι', oneV vs, oneV cs, H', rfl, hS'.rel, oneV_rel hrl, hF, hx'⟩
    · exact hx'.elim
  cases x with
  | normal => exact ⟨hS'.defers, key .normal hQ (fun _ h => by cases h)⟩
  | ret => exact ⟨hS'.defers, key .ret hQ (fun _ h => by cases h)⟩
  | exit id => exact hQ.elim

/-- A function, read off. -/
def cfun (P : Program) (pv : List Nat) (fn : Func) : Option (AC × List ARes) :=
  match fn.body with
  | some c => match ccode P pv fn.ntmps c, cres P pv fn.results.toList with
    | some ac, some rs => some (ac, rs)
    | _, _ => none
  | none => none

theorem callS_fun {f : FuncId} {fn : Func} {pv : List Nat} {ac : AC} {rs : List ARes} {args : List Value} {Q : Value → AHeap → Prop} (hf : P.funcs[f]? = some fn) (hc : cfun P pv fn = some (ac, rs))
    (h : Body P w0 ac rs args H Q) : CallS P w0 f args H Q := by
  unfold cfun at hc
  split at hc
  · rename_i c hb
    split at hc
    · rename_i ac' rs' h1 h2
      cases hc
      exact callS_of pv hf hb h1 h2 h
    · cases hc
  · cases hc

end Go.AB
