/- Own framework, part 14: a region whose operations come up in any order, shown (3). -/
import Derived.Test.YtnbamdhmhnhneaaB13
set_option linter.unusedVariables false
set_option linter.unusedSimpArgs false
namespace Go.AB
open Go.RowKit
variable {P : Program} {w0 w w' ws : World} {ι ι' ι0 : Inj} {H H' H0 : AHeap} {pv : List Nat} {nt : Nat} {e e0 : Env} {a : Act} {ops : List Oper} {l : List AOper} {V : Nat → Value} {Hs : Nat → AHeap} {T : Nat → Option Nat} {Es : Nat → Env}
variable {S : Nat → Prop} {p : Nat}

theorem Ctx.uniq (c : Ctx P w0 pv nt ops l V Hs T Es) {i k : Nat} {o u : Oper} {d : Nat} (ho : ops[i]? = some o) (hu : ops[k]? = some u) (h1 : o.dst = some d) (h2 : u.dst = some d) : i = k := by
  have key : ∀ (i k : Nat) o u, ops[i]? = some o → ops[k]? = some u → o.dst = some d → u.dst = some d → i < k → False := fun i k o u ho hu h1 h2 hik => by
    obtain ⟨p, _, hp⟩ := c.cmp k u hu
    have hkl : k < ops.length := (List.getElem?_eq_some_iff.1 hu).1
    have := hp.ok
    rw [h2] at this
    simp only [dstOk, Bool.and_eq_true, Bool.not_eq_true', List.contains_eq_mem, decide_eq_false_iff_not] at this
    refine this.2 (List.mem_of_getElem? (i := k - 1 - i) ?_)
    rw [dsAt_get ops (by omega), if_pos (by omega)]
    have : k - 1 - (k - 1 - i) = i := by omega
    rw [this, ho]; simp [h1]
  rcases Nat.lt_trichotomy i k with h | h | h
  · exact (key i k o u ho hu h1 h2 h).elim
  · exact h
  · exact (key k i u o hu ho h2 h1 h).elim

theorem put_self {d : Nat} {v : Value} (h : d < a.tmps.size) : (a.put (some d) v).tmps.getD d undef = v := by
  simp only [Act.put, Array.getD_eq_getD_getElem?]
  rw [Array.getElem?_setIfInBounds_self_of_lt h]; rfl
theorem put_other {d : Option Nat} {v : Value} {t : Nat} (h : d ≠ some t) : (a.put d v).tmps.getD t undef = a.tmps.getD t undef := by
  cases d with
  | none => rfl
  | some d =>
    simp only [Act.put, Array.getD_eq_getD_getElem?]
    rw [Array.getElem?_setIfInBounds_ne (fun he => h (by rw [he]))]

theorem Mid.atp (c : Ctx P w0 pv nt ops l V Hs T Es) (M : Mid P w0 pv nt ops l V Hs T Es ι0 ws S p ι a w) {i : Nat} {o : Oper} {q : AOper} (ho : ops[i]? = some o) (hq : l[i]? = some q) (hn : ¬ S i) (hd : ∀ j ∈ depsOf o, S j) :
    (cls q.op = 3 → i = p) ∧ (cls q.op = 2 → i < p) := by
  have hil : i < ops.length := (List.getElem?_eq_some_iff.1 ho).1
  have key : p < i → cls q.op = 3 ∨ cls q.op = 2 → False := fun hpi hc => by
    obtain ⟨r, hr, hrc⟩ := M.nxt (by omega)
    have := M.bits c ho hd (c.ok.chain i q p r hq hc hpi hr hrc)
    have := (M.chain p r hr hrc).1 this
    omega
  constructor
  · intro h3
    have h1 : ¬ i < p := fun h => hn ((M.chain i q hq h3).2 h)
    rcases Nat.lt_or_ge p i with h | h
    · exact (key h (.inl h3)).elim
    · omega
  · intro h2
    rcases Nat.lt_trichotomy p i with h | h | h
    · exact (key h (.inr h2)).elim
    · obtain ⟨r, hr, hrc⟩ := M.nxt (by omega)
      rw [h, hq] at hr; cases hr
      omega
    · exact h

theorem Ctx.ahead (c : Ctx P w0 pv nt ops l V Hs T Es) {p p' : Nat} (hp : p ≤ p') (hp' : p' ≤ ops.length) (h4 : ∀ (k : Nat) q, p ≤ k → k < p' → l[k]? = some q → cls q.op ≠ 3) (hR : RelH P w0 ι (Hs p) w) (hF : Frame ι0 (Hs 0) ws ι (Hs p) w) :
    RelH P w0 ι (Hs p') w ∧ Frame ι0 (Hs 0) ws ι (Hs p') w := by
  have hs : ∀ b, b < (Hs p).n → (Hs p').get b = (Hs p).get b := fun b hb => c.stab hp hp' hb (fun k q h1 h2 h3 h5 => absurd h5 (h4 k q h1 h2 h3))
  refine ⟨hR.congr (fun b i hb => hs b (hR.dom b i hb)) (fun b i hb => Nat.lt_of_lt_of_le (hR.dom b i hb) (c.mono hp hp')), hF.le, Nat.le_trans hF.grow (c.mono hp hp'), fun b hb ho => hF.alive b hb ?_, hF.size, hF.keep, fun b i h1 h2 => ⟨(hF.new b i h1 h2).1, fun ho => (hF.new b i h1 h2).2 ?_⟩⟩
  · rwa [hs b (Nat.lt_of_lt_of_le hb hF.grow)] at ho
  · rwa [hs b (hR.dom b i h2)] at ho

theorem Mid.step (c : Ctx P w0 pv nt ops l V Hs T Es) (M : Mid P w0 pv nt ops l V Hs T Es ι0 ws S p ι a w) {i : Nat} {o : Oper} {q : AOper} (ho : ops[i]? = some o) (hq : l[i]? = some q) (hn : ¬ S i) (hd : ∀ j ∈ depsOf o, S j)
    {v' : Value} (hle : ι.le ι') (hv : RelV ι' (V i) v') {r : Nat} (hr : r = if cls q.op = 3 then i + 1 else p) (hR : RelH P w0 ι' (Hs r) w') (hF : Frame ι0 (Hs 0) ws ι' (Hs r) w')
    (hfr : ∀ (k : Nat) u, l[k]? = some u → k ≠ i → ¬ S k → cls u.op = 2 → ∀ b, T k = some b → ι' b = none) :
    ∃ p', Mid P w0 pv nt ops l V Hs T Es ι0 ws (fun k => S k ∨ k = i) p' ι' (a.put o.dst v') w' := by
  have hil : i < ops.length := (List.getElem?_eq_some_iff.1 ho).1
  have hat := M.atp c ho hq hn hd
  -- where the chain goes on
  obtain ⟨p', hp1, hp2, hp3, hp4, hch, hrp⟩ : ∃ p', r ≤ p' ∧ p' ≤ ops.length ∧ (p' < ops.length → ∃ q, l[p']? = some q ∧ cls q.op = 3) ∧ (∀ (k : Nat) q, r ≤ k → k < p' → l[k]? = some q → cls q.op ≠ 3) ∧ (∀ (k : Nat) u, l[k]? = some u → cls u.op = 3 → ((S k ∨ k = i) ↔ k < p')) ∧ r ≤ ops.length := by
    by_cases h3 : cls q.op = 3
    · rw [if_pos h3] at hr
      have hip := hat.1 h3
      obtain ⟨p', h1, h2, h4, h5⟩ := c.next (ops.length - r) r rfl (by omega)
      refine ⟨p', h1, h2, h4, h5, fun k u hk hu => ?_, by omega⟩
      rw [M.chain k u hk hu]
      constructor
      · rintro (h | h) <;> omega
      · intro h
        rcases Nat.lt_or_ge k r with h' | h'
        · omega
        · exact absurd hu (h5 k u h' h hk)
    · rw [if_neg h3] at hr
      subst hr
      refine ⟨r, Nat.le_refl _, M.le, M.nxt, fun k q h1 h2 => by omega, fun k u hk hu => ?_, M.le⟩
      rw [M.chain k u hk hu]
      have : k ≠ i := fun h => by subst h; rw [hq] at hk; cases hk; exact h3 hu
      constructor
      · rintro (h | h)
        · exact h
        · exact absurd h this
      · exact .inl
  obtain ⟨hR', hF'⟩ := c.ahead hp1 hp2 hp4 hR hF
  obtain ⟨q', hq', hcmp⟩ := c.cmp i o ho
  rw [hq] at hq'; cases hq'
  refine ⟨p', hR', ?_, ?_, fun k u d hk hs hdd => ?_, fun t u ht hno hu => ?_, hF', fun k u hk hs h2 b hb => hfr k u hk (fun h => hs (.inr h)) (fun h => hs (.inl h)) h2 b hb, hch, hp2, hp3, fun k u hk hs j hj => ?_⟩
  · have := M.size
    cases o.dst <;> simp [Act.put] <;> exact this
  · have := M.defers
    cases o.dst <;> simp [Act.put] <;> exact this
  · by_cases hki : k = i
    · subst hki
      rw [ho] at hk; cases hk
      have hdn : d < a.tmps.size := by
        have h1 := hcmp.ok
        rw [hdd] at h1
        simp only [dstOk, Bool.and_eq_true, decide_eq_true_eq] at h1
        exact Nat.lt_of_lt_of_le h1.1 M.size
      rw [hdd, put_self hdn]
      exact hv
    · rw [put_other (fun h => hki (c.uniq hk ho hdd h))]
      exact (M.slot k u d hk (hs.resolve_right hki) hdd).mono hle
  · rw [put_other (hno i o ho (.inr rfl))]
    exact (M.var t u ht (fun k x hk hs => hno k x hk (.inl hs)) hu).mono hle
  · rcases hs with hs | rfl
    · exact .inl (M.closed k u hk hs j hj)
    · rw [ho] at hk; cases hk
      exact .inl (hd j hj)

/-- One operation, done. -/
theorem run_wp {m : Operand → Option AOpd} {rs : List Value} {o : Oper} {q : AOp} {v : Value} {t : Option Nat} {K : Act → World → Prop} {Q : Exit → Act → World → Prop} (hR : RelH P w0 ι H w) (hm : Opds ι m (ev rs e) a.eval) (hq : cop P m o.op = some q) (hr : Run1 P w0 q rs e H v t H')
    (hn : ∀ ι' v' w', RelV ι' v v' → RelH P w0 ι' H' w' → Frame ι H w ι' H' w' → K (a.put o.dst v') w') : o.wp P a w K Q := by
  rcases hr with ⟨f, xs, vs, rfl, hvs, hcl, _, _⟩ | ⟨x, xs, vs, tv, f, fs, cs, rfl, ht, hvs, htg, hcb, hcl, _, _⟩ | ⟨hv, _⟩
  · obtain ⟨c, fn, body, hop, hcal, hfn, hbody, hname, hxs⟩ := cop_call hq
    have hrel := evs_rel hm hxs hvs
    have hcall := hcl ι w _ hR hrel
    have hrun : (execOp a.eval o).run P w = .ok (.enter f (c.args.map a.eval)) w := by
      simp only [execOp, hop, resolve, hcal]
      simp [Act.eval, Deferred.ofValue, invoke, callFunc_run hfn hbody hname]
    unfold Oper.wp
    rw [hrun]
    simp only [Oper.upon]
    have harr : (List.map a.eval c.args.toList).toArray = c.args.map a.eval := by apply Array.ext'; simp
    rw [harr] at hcall
    refine hcall.mono ?_
    rintro ed w' ⟨ι', u, v', G, rfl, h1, h2, h3, rfl, rfl⟩
    exact hn ι' v' w' h2 h1 h3
  · obtain ⟨c, t', hop, hcal, hx, hxs⟩ := cop_callv hq
    have hrel := evs_rel hm hxs hvs
    have hrt := hm _ _ _ hx ht
    unfold target at htg
    split at htg
    · rename_i f0 fs0 cs0
      cases htg
      generalize hcv : a.eval (.tmp t') = cv at hrt
      cases hrt with
      | func h1 h2 h3 h4 =>
        rename_i f2 c2
        have hr1 : RelL ι fs0.toList f2.toList := ⟨by simpa using h1, fun j x y hx hy => h3 j x y (by simpa using hx) (by simpa using hy)⟩
        have hr2 : RelL ι cs0.toList c2.toList := ⟨by simpa using h2, fun j x y hx hy => h4 j x y (by simpa using hx) (by simpa using hy)⟩
        have hcall := hcl ι w _ hR ((hr1.append hrel).append hr2)
        have harr : (f2.toList ++ List.map a.eval c.args.toList ++ c2.toList).toArray = f2 ++ c.args.map a.eval ++ c2 := by apply Array.ext'; simp
        rw [harr] at hcall
        unfold callable at hcb
        split at hcb
        case h_2 => cases hcb
        rename_i fn hfn
        simp only [Bool.and_eq_true, Bool.not_eq_true', Option.isSome_iff_exists] at hcb
        obtain ⟨⟨body, hbody⟩, hname⟩ := hcb
        have hrun : (execOp a.eval o).run P w = .ok (.enter f (f2 ++ c.args.map a.eval ++ c2)) w := by
          simp only [execOp, hop, resolve, hcal]
          rw [Sem.run_bind]
          simp only [hcv, Deferred.ofValue, Sem.run_pure, Result.andThen_ok, invoke, callFunc_run hfn hbody hname]
        unfold Oper.wp
        rw [hrun]
        simp only [Oper.upon]
        refine hcall.mono ?_
        rintro ed w' ⟨ι', u, v', G, rfl, h1, h2, h3, rfl, rfl⟩
        exact hn ι' v' w' h2 h1 h3
    · cases htg
  · obtain ⟨ι', w', v', hrun, hR', hrel, hF⟩ := aop_good hm hR hq hv
    unfold Oper.wp
    rcases hrun with hrun | ⟨hrun, rfl⟩
    · rw [hrun]; exact hn ι' v' w' hrel hR' hF
    · rw [hrun]; exact hn ι' undef w' hrel hR' hF

/-- A ready operation. -/
theorem Mid.op (c : Ctx P w0 pv nt ops l V Hs T Es) (M : Mid P w0 pv nt ops l V Hs T Es ι0 ws S p ι a w) (hR0 : RelH P w0 ι0 (Hs 0) ws) {i : Nat} {o : Oper} (ho : ops[i]? = some o) (hn : ¬ S i) (hd : ∀ j ∈ depsOf o, S j)
    {K : Act → World → Prop} {Q : Exit → Act → World → Prop} (hK : ∀ p' ι' a' w', Mid P w0 pv nt ops l V Hs T Es ι0 ws (fun k => S k ∨ k = i) p' ι' a' w' → K a' w') : wpOp P ops.toArray Q i K a w := by
  have hil : i < ops.length := (List.getElem?_eq_some_iff.1 ho).1
  obtain ⟨q, hq, hcmp⟩ := c.cmp i o ho
  have hat := M.atp c ho hq hn hd
  have hm := M.opds c ho hn hd
  have hoa : ops.toArray[i]? = some o := by rw [List.getElem?_toArray]; exact ho
  unfold wpOp
  simp only [hoa]
  rcases c.step hq with ⟨hg, hv, ht, hH⟩ | ⟨hg, hr⟩
  · rw [M.wanted c ho hd hcmp hg]
    simp only [Bool.false_eq_true, if_false]
    have hH' : Hs (if cls q.op = 3 then i + 1 else p) = Hs p := by
      split
      · rename_i h3; rw [hH, hat.1 h3]
      · rfl
    obtain ⟨p', hM⟩ := M.step c ho hq hn hd (v' := undef) (Inj.le_refl ι) (by rw [hv]; exact undef_rel) rfl (by rw [hH']; exact M.rel) (by rw [hH']; exact M.frame) (fun k u hk _ hs h2 b hb => M.fresh k u hk hs h2 b hb)
    exact hK _ _ _ _ hM
  · rw [M.wanted c ho hd hcmp hg]
    simp only [if_true]
    refine .inl ?_
    -- what stays unmade
    have unmade : ∀ {ι' : Inj} {w' : World} {r : Nat}, (r = if cls q.op = 3 then i + 1 else p) → RelH P w0 ι' (Hs r) w' → Frame ι (Hs p) w ι' (Hs r) w' → ∀ (k : Nat) u, l[k]? = some u → k ≠ i → ¬ S k → cls u.op = 2 → ∀ b, T k = some b → ι' b = none := by
      intro ι' w' r hr hR hF k u hk hki hs h2 b hb
      obtain ⟨hb1, hb2⟩ := c.newId hk h2 hb
      have hb0 := M.fresh k u hk hs h2 b hb
      cases hb' : ι' b with
      | none => rfl
      | some j =>
        have h1 := (hF.new b j hb0 hb').1
        have h3 := hR.dom b j hb'
        have hkl : k < ops.length := by rw [← c.ok.len]; exact (List.getElem?_eq_some_iff.1 hk).1
        by_cases hc3 : cls q.op = 3
        · rw [if_pos hc3] at hr
          have hip := hat.1 hc3
          subst hr
          rcases Nat.lt_or_ge k p with hkp | hkp
          · have := c.mono (i := k + 1) (j := p) (by omega) M.le
            omega
          · have := c.mono (i := i + 1) (j := k) (by omega) (by omega)
            omega
        · rw [if_neg hc3] at hr
          subst hr
          omega
    have hstep : ∀ {r : Nat} {v t}, (r = if cls q.op = 3 then i + 1 else p) → v = V i → Run1 P w0 q.op (revs V i) (Es i) (Hs p) v t (Hs r) → o.wp P a w K Q := fun {r v t} hr hvi hrun => by
      subst hvi
      refine run_wp M.rel hm hcmp.op hrun fun ι' v' w' h1 h2 h3 => ?_
      obtain ⟨p', hM⟩ := M.step c ho hq hn hd (v' := v') h3.le h1 hr h2 (Frame.trans hR0 M.rel M.frame h3) (unmade hr h2 h3)
      exact hK _ _ _ _ hM
    rcases cls_lt q.op with h0 | h1 | h2 | h3
    · -- it only computes
      obtain ⟨hv, ht⟩ := hr.aop (by omega)
      obtain ⟨_, hG⟩ := aop_pure h0 hv
      exact hstep (r := p) (by rw [if_neg (by omega)]) rfl (.inr (.inr ⟨hG (Hs p), rfl⟩))
    · -- it reads
      obtain ⟨hv, ht⟩ := hr.aop (by omega)
      obtain ⟨_, hG⟩ := aop_read h1 hv
      refine hstep (r := p) (by rw [if_neg (by omega)]) rfl (.inr (.inr ⟨hG (Hs p) fun b hb => ?_, rfl⟩))
      have hTb : T i = some b := by rw [ht, hb]
      obtain ⟨j, hj⟩ := touch_mapped hm hcmp.op h1 hb
      have hbp := M.rel.dom b j hj
      have hbi : b < (Hs i).n := AHeap.lt_of rfl (touch_alive h1 hv hb)
      rcases Nat.le_total i p with hip | hip
      · refine c.stab hip M.le hbi fun k u hk1 hk2 hk hu => ?_
        have hki : i ≠ k := fun h => by subst h; rw [hq] at hk; cases hk; omega
        have hS : S k := (M.chain k u hk hu).2 hk2
        refine c.cond i k q u b hq hk hu (.inl ⟨h1, ?_⟩) hTb
        rw [if_pos (by omega)]
        cases hbit : bit ops k i with
        | false => rfl
        | true => exact absurd (M.bitS c (by have := M.le; omega) hS hbit) hn
      · refine (c.stab hip (by omega) hbp fun k u hk1 hk2 hk hu => ?_).symm
        have hS : ¬ S k := fun h => by have := (M.chain k u hk hu).1 h; omega
        refine c.cond i k q u b hq hk hu (.inl ⟨h1, ?_⟩) hTb
        rw [if_neg (by omega)]
        refine ⟨by omega, ?_⟩
        cases hbit : bit ops i k with
        | false => rfl
        | true => exact absurd (M.bits c ho hd hbit) hS
    · -- it makes a new object
      obtain ⟨hv, ht⟩ := hr.aop (by omega)
      have hip := hat.2 h2
      obtain ⟨vs, ty, hH, cs, bi, v', b1, b2, b3, b4, b5, b6, b7, b8, b9⟩ := new_of (w := w) hm hcmp.op h2 hv
      obtain ⟨_, _, _, htb, _⟩ := aop_new h2 hv
      have hTb : T i = some (Hs i).n := by rw [ht, htb]
      have hb0 := M.fresh i q hq hn h2 _ hTb
      have hb1 : (Hs i).n < (Hs (i + 1)).n := (c.newId hq h2 hTb).2
      have hget : (Hs p).get (Hs i).n = .cells vs ty := by
        rw [c.stab (i := i + 1) (j := p) (by omega) M.le hb1 ?_, hH, AHeap.alloc_self]
        intro k u hk1 hk2 hk hu
        have hS : S k := (M.chain k u hk hu).2 hk2
        refine c.cond i k q u _ hq hk hu (.inr ⟨h2, by omega, ?_⟩) hTb
        cases hbit : bit ops k i with
        | false => rfl
        | true => exact absurd (M.bitS c (by have := M.le; omega) hS hbit) hn
      have hbp : (Hs i).n < (Hs p).n := Nat.lt_of_lt_of_le hb1 (c.mono (by omega) M.le)
      have hle : ι.le (ι.put (Hs i).n bi) := fun d k hdk => by
        by_cases hdb : d = (Hs i).n
        · subst hdb; rw [hb0] at hdk; cases hdk
        · rw [Inj.put_ne ι bi hdb]; exact hdk
      have hRn : RelH P w0 (ι.put (Hs i).n bi) (Hs p) (w.alloc (.cells cs ty)) := by
        refine M.rel.act hb0 hbp hget b1 ?_
        have hc : w.heap.size < (w.heap.push (.cells cs ty (0, 0))).size := by simp
        refine ⟨by rw [b1]; exact M.rel.old.size, b3, b4, cs, (0, 0), ?_, fun j _ => by simp, b5, ?_, ?_⟩
        · show (w.heap.push _)[bi.cb]? = _
          rw [b1]; simp
        · have := b7.1; rw [b2]; simp at this ⊢; omega
        · rw [b2]
          have := (Holds.of_list b6 b7).mono hle
          simpa using this
      have hFn : Frame ι0 (Hs 0) ws (ι.put (Hs i).n bi) (Hs p) (w.alloc (.cells cs ty)) := by
        have hsz : w.heap.size ≤ (w.alloc (.cells cs ty)).heap.size := by show w.heap.size ≤ (w.heap.push _).size; simp
        refine ⟨Inj.le_trans M.frame.le hle, M.frame.grow, M.frame.alive, Nat.le_trans M.frame.size hsz, fun cb hcb hno => ?_, fun b j h1 h3 => ?_⟩
        · rw [← M.frame.keep cb hcb hno]
          exact Below.heap_alloc w _ cb (Nat.lt_of_lt_of_le hcb M.frame.size)
        · by_cases hb : b = (Hs i).n
          · subst hb
            rw [Inj.put_self] at h3; cases h3
            exact ⟨c.mono (Nat.zero_le _) (by omega), fun _ => .inl (by rw [b1]; exact M.frame.size)⟩
          · rw [Inj.put_ne ι bi hb] at h3
            exact M.frame.new b j h1 h3
      obtain ⟨p', hM⟩ := M.step c ho hq hn hd (v' := v') hle b9 (r := p) (by rw [if_neg (by omega)]) hRn hFn fun k u hk hki hs hu2 b hb => by
        have hne : b ≠ (Hs i).n := fun h => by
          obtain ⟨e1, e2⟩ := c.newId hk hu2 hb
          have hkl : k < ops.length := by rw [← c.ok.len]; exact (List.getElem?_eq_some_iff.1 hk).1
          rcases Nat.lt_trichotomy k i with h' | h' | h'
          · have := c.mono (i := k + 1) (j := i) (by omega) (by omega); omega
          · exact hki h'
          · have := c.mono (i := i + 1) (j := k) (by omega) (by omega); omega
        rw [Inj.put_ne ι bi hne]
        exact M.fresh k u hk hs hu2 b hb
      unfold Oper.wp
      rw [b8]
      exact hK _ _ _ _ hM
    · -- the chain's next
      have hip := hat.1 h3
      refine hstep (r := i + 1) (v := V i) (t := T i) (by rw [if_pos h3]) rfl ?_
      rw [← hip]; exact hr

theorem Mid.any (c : Ctx P w0 pv nt ops l V Hs T Es) (hR0 : RelH P w0 ι0 (Hs 0) ws) {Q : Exit → Act → World → Prop} (hQ : ∀ S p ι a w, Mid P w0 pv nt ops l V Hs T Es ι0 ws S p ι a w → (∀ i, i < ops.length → S i) → Q .normal a w) :
    ∀ (fuel : Nat) (listed : Array Bool) (S : Nat → Prop) (p : Nat) (ι : Inj) (a : Act) (w : World), Mid P w0 pv nt ops l V Hs T Es ι0 ws S p ι a w → listed.size = ops.length → (∀ i, S i ↔ listed.getD i false = true) → listed.toList.countP (!·) ≤ fuel →
      wpAny P .any ops.toArray Q fuel listed a w := by
  have full : ∀ (listed : Array Bool) (S : Nat → Prop), listed.size = ops.length → (∀ i, S i ↔ listed.getD i false = true) → Region.ready .any ops.toArray listed = [] → ∀ i, i < ops.length → S i := by
    intro listed S hsz hS hr i
    induction i using Nat.strongRecOn with
    | ind i ih =>
      intro hi
      rw [hS]
      cases hli : listed.getD i false with
      | true => rfl
      | false =>
        have : i ∈ Region.ready .any ops.toArray listed := by
          rw [mem_ready]
          have hlt : i < listed.size := by omega
          refine ⟨?_, ops[i], by rw [List.getElem?_toArray, List.getElem?_eq_getElem hi], fun e he hb => ?_⟩
          · simp only [Array.getD, hlt, dif_pos] at hli ⊢; exact hli
          · have hj : e.on < i := c.ok.dep i _ (List.getElem?_eq_getElem hi) e.on (by
              unfold depsOf
              exact List.mem_map.2 ⟨e, List.mem_filter.2 ⟨by simpa using he, hb⟩, rfl⟩)
            exact (hS e.on).1 (ih e.on hj (by omega))
        rw [hr] at this
        cases this
  intro fuel
  induction fuel with
  | zero =>
    intro listed S p ι a w hM hsz hS hcnt
    have hall : ∀ i, i < ops.length → listed.getD i false = true := fun i hi => by
      have h0 := List.countP_eq_zero.1 (Nat.le_zero.1 hcnt) (listed.toList[i]'(by simp; omega)) (List.getElem_mem _)
      have hlt : i < listed.size := by omega
      simp only [Array.getD, hlt, dif_pos]
      simpa using h0
    refine ⟨?_, hQ S p ι a w hM fun i hi => (hS i).2 (hall i hi)⟩
    cases hr : Region.ready .any ops.toArray listed with
    | nil => rfl
    | cons i rs =>
      have hi : i ∈ Region.ready .any ops.toArray listed := by rw [hr]; simp
      obtain ⟨h1, o, ho, _⟩ := mem_ready.1 hi
      have hil : i < ops.length := by
        have := (Array.getElem?_eq_some_iff.1 ho).1
        simpa using this
      have := hall i hil
      have hlt : i < listed.size := by omega
      simp only [Array.getD, hlt, dif_pos] at h1 this
      have h1' : listed[i] = false := h1
      have h2' : listed[i] = true := this
      rw [h1'] at h2'; cases h2'
  | succ fuel ih =>
    intro listed S p ι a w hM hsz hS hcnt
    refine ⟨fun hr => hQ S p ι a w hM (full listed S hsz hS hr), fun i hi => ?_⟩
    obtain ⟨h1, o, ho, hall⟩ := mem_ready.1 hi
    rw [List.getElem?_toArray] at ho
    have hil : i < ops.length := (List.getElem?_eq_some_iff.1 ho).1
    have hlt : i < listed.size := by omega
    have hli : listed[i] = false := by simp only [Array.getD, hlt, dif_pos] at h1; exact h1
    have hn : ¬ S i := fun h => by
      have := (hS i).1 h
      simp only [Array.getD, hlt, dif_pos] at this
      have this' : listed[i] = true := this
      rw [hli] at this'; cases this'
    have hd : ∀ j ∈ depsOf o, S j := fun j hj => by
      unfold depsOf at hj
      obtain ⟨e, he, rfl⟩ := List.mem_map.1 hj
      obtain ⟨he1, he2⟩ := List.mem_filter.1 he
      exact (hS _).2 (hall e (by simpa using he1) he2)
    refine hM.op c hR0 ho hn hd fun p' ι' a' w' hM' => ih _ _ p' ι' a' w' hM' (by simpa using hsz) (fun k => ?_) ?_
    · by_cases hki : k = i
      · subst hki
        simp [hlt]
      · rw [getD_set_ne false (fun h => hki h.symm), ← hS k]
        exact ⟨fun h => h.resolve_right hki, .inl⟩
    · have := List.countP_set (p := (!·)) (l := listed.toList) (i := i) (a := true) (by simpa using hlt)
      have e1 : (listed.setIfInBounds i true).toList = listed.toList.set i true := by simp
      have hli' : listed.toList[i]'(by simpa using hlt) = false := by simpa using hli
      rw [e1, this, hli']
      have : 0 < listed.toList.countP (!·) := List.countP_pos_iff.2 ⟨false, by rw [← hli]; simp, rfl⟩
      simp only [Bool.not_false, Bool.not_true, if_true, Bool.false_eq_true, if_false]
      omega

/-- A region whose operations may come up in any order. -/
theorem draw_sound {id : Nat} {ops : Array Oper} {l : List AOper} {cf : List (Nat × Nat)} {K : Env → AHeap → Prop} {Q : Exit → Act → World → Prop} (hc : cdraw P pv nt ops.toList = some (.draw l cf)) (hS : Sat P w0 pv nt ι e H a w) (hW : opsD P w0 cf l [] e H [] K)
    (hQ : ∀ ι' e' H' a' w', Sat P w0 pv nt ι' e' H' a' w' → Frame ι H w ι' H' w' → K e' H' → Q .normal a' w') : (Code.region id ops true).wp P Q a w := by
  simp only [cdraw] at hc
  split at hc
  case h_2 => cases hc
  rename_i l0 hl0
  split at hc
  case isFalse => cases hc
  rename_i hcond
  cases hc
  simp only [Bool.and_eq_true] at hcond
  obtain ⟨hf, hdo⟩ := hcond
  obtain ⟨hlen, hcmp⟩ := cops1_get ops.toList [] l hl0
  obtain ⟨V, Hs, T, Es, rfl, rfl, htr, hcd, hK⟩ := opsD_trace l [] e H [] hW
  have c : Ctx P w0 pv nt ops.toList l V Hs T Es := by
    refine ⟨htr, drawOk_spec hlen hdo, fun i o ho => by simpa using hcmp i o ho, fun i k p q b hp hq hq3 hor ht => ?_⟩
    have hi : i < l.length := (List.getElem?_eq_some_iff.1 hp).1
    have hk : k < l.length := (List.getElem?_eq_some_iff.1 hq).1
    have hmem : (i, k) ∈ confl l (masks [] ops.toList) := by
      unfold confl
      refine List.mem_flatMap.2 ⟨i, List.mem_range.2 hi, List.mem_filterMap.2 ⟨k, List.mem_range.2 hk, ?_⟩⟩
      simp only [hp, hq]
      rw [if_pos]
      simp only [hq3, beq_self_eq_true, Bool.true_and, Bool.or_eq_true, Bool.and_eq_true, beq_iff_eq, decide_eq_true_eq, Bool.not_eq_true']
      rcases hor with ⟨h1, h2⟩ | ⟨h1, h2, h3⟩
      · refine .inl ⟨h1, ?_⟩
        by_cases hik : i < k
        · rw [if_pos hik] at h2 ⊢
          simpa [bit] using h2
        · rw [if_neg hik] at h2 ⊢
          simpa [bit] using h2
      · exact .inr ⟨⟨h1, h2⟩, h3⟩
    have := hcd (i, k) hmem
    simp only [List.append_nil, recsOf_length] at this
    rw [recsOf_get Hs T l.length i hi, recsOf_get Hs T l.length k hk] at this
    simp only [ht] at this
    exact this
  have hR0 := hS.rel.drew
  obtain ⟨p, hp1, hp2, hp3, hp4⟩ := c.next (ops.toList.length - 0) 0 rfl (Nat.zero_le _)
  obtain ⟨hRp, hFp⟩ := c.ahead hp1 hp2 hp4 hR0 (Frame.refl ι (Hs 0) w.drew)
  have M0 : Mid P w0 pv nt ops.toList l V Hs T Es ι w.drew (fun _ => False) p ι a w.drew := by
    refine ⟨hRp, hS.size, hS.defers, fun i o d _ h => h.elim, fun t u ht _ hu => hS.env t u ht hu, hFp, fun i q hq _ h2 b hb => ?_, fun i q hq h3 => ?_, hp2, hp3, fun i o _ h => h.elim⟩
    · obtain ⟨e1, e2⟩ := c.newId hq h2 hb
      have hil : i < ops.toList.length := by rw [← hlen]; exact (List.getElem?_eq_some_iff.1 hq).1
      cases hb' : ι b with
      | none => rfl
      | some j =>
        have h1 := hS.rel.dom b j hb'
        have := c.mono (i := 0) (j := i) (Nat.zero_le _) (by omega)
        omega
    · constructor
      · exact False.elim
      · intro h; exact absurd h3 (hp4 i q (Nat.zero_le _) h hq)
  refine wp_region_any hf ?_
  have hsz : ops.size = ops.toList.length := by simp
  have := Mid.any c hR0 (Q := Q) (fun S p ι' a' w' M hall => by
    have hpn : p = ops.toList.length := by
      have hle := M.le
      rcases Nat.lt_or_ge p ops.toList.length with h | h
      · obtain ⟨q, hq, hq3⟩ := M.nxt h
        have := (M.chain p q hq hq3).1 (hall p h)
        omega
      · omega
    subst hpn
    rw [hlen] at hK
    refine hQ ι' _ _ a' w' ⟨M.rel, M.size, M.defers, fun t u ht hu => ?_⟩ (Frame.trans hS.rel hR0 (Frame.drew _ _ _) M.frame) hK
    rcases c.envAt ht ops.toList.length (Nat.le_refl _) with ⟨j, o, h1, h2, h3, h4⟩ | ⟨h1, h2⟩
    · rw [h4] at hu; cases hu
      exact M.slot j o t h2 (hall j h1) h3
    · rw [h2] at hu
      exact M.var t u ht (fun i o ho _ => h1 i o (List.getElem?_eq_some_iff.1 ho).1 ho) hu) ops.size (Array.replicate ops.size false) (fun _ => False) p ι a w.drew M0 (by simp) (fun i => by simp [Array.getD]) (by
      rw [Array.toList_replicate]
      exact Nat.le_trans List.countP_le_length (by simp))
  simpa using this

end Go.AB
