/- Own framework, part 20: steps of a region whose operations may come up in several orders, where some must not meet. (Printed by mkb20.py.) -/
import Derived.Test.YtnbamdhmhnhneaaB19
set_option linter.unusedVariables false
namespace Go.AB
variable {P : Program} {w0 : World} {H : AHeap} {e : Env} {rs : List Value} {d : Option Nat} {l : List AOper} {K : Env → AHeap → Prop} {cf : List (Nat × Nat)} {tr : List Rec} {Q : AX → Env → AHeap → Prop}
def tchP (v : Option Value) : Option Nat := match v with
  | some (.pointer (some a)) => some a.block
  | _ => none
def tchS (v : Option Value) : Option Nat := match v with
  | some (.slice (some a) _ _) => some a.block
  | _ => none
def SV.blk : SV → Option Nat
  | .nil => none
  | .at b _ _ => some b
theorem tchP_pt {b o : Nat} : tchP (some (pt b o)) = some b := rfl
theorem tchP_p {s : SV} {j : Nat} : tchP (some (s.p j)) = s.blk := by cases s <;> rfl
theorem tchS_s {s : SV} : tchS (some s.v) = s.blk := by cases s <;> rfl
def tchK (t : Option Nat) (j : Rec) : Prop := match t with
  | some b => j.a.get b = j.b.get b
  | none => True
theorem tchK_some {b : Nat} {t : Option Nat} {H G : AHeap} : tchK (some b) ⟨t, H, G⟩ = (G.get b = H.get b) := rfl
theorem tchK_none {j : Rec} : tchK none j = True := rfl
theorem tchK_blk {s : SV} {t : Option Nat} {H G : AHeap} (h : ∀ b, ¬ s.off b → G.get b = H.get b) : tchK s.blk ⟨t, H, G⟩ := by
  cases s with
  | nil => trivial
  | «at» b o n => exact h b (by simp [SV.off])
def condP : Option Rec → Option Rec → Prop
  | some i, some j => tchK i.t j
  | _, _ => False
theorem condP_some {t u : Option Nat} {H G F E : AHeap} : condP (some ⟨t, H, G⟩) (some ⟨u, F, E⟩) = tchK t ⟨u, F, E⟩ := rfl
theorem condsD_end : condsD [] tr = True := condsD_nil
theorem condsD_iff : condsD cf tr ↔ ∀ p ∈ cf, condP tr[tr.length - 1 - p.1]? tr[tr.length - 1 - p.2]? := by
  constructor <;> intro h p hp <;> have h1 := h p hp <;> revert h1 <;> generalize tr[tr.length - 1 - p.1]? = a <;> generalize tr[tr.length - 1 - p.2]? = b <;> cases a <;> cases b <;> exact id
theorem condsD_cons {p q : Nat} : condsD ((p, q) :: cf) tr = (condP tr[tr.length - 1 - p]? tr[tr.length - 1 - q]? ∧ condsD cf tr) := by
  rw [condsD_iff, condsD_iff, List.forall_mem_cons]
theorem opsD_op {q : AOp} (hq : isCall q = false) : opsD P w0 cf (⟨d, none, q⟩ :: l) rs e H tr K = thenO (aop q (ev rs e) H) fun v H' => opsD P w0 cf l (v :: rs) (e.put d v) H' (⟨touch q (ev rs e) H, H, H'⟩ :: tr) K := by
  rw [opsD]
  simp only [gd]
  cases q <;> first | rfl | (simp [isCall] at hq)
theorem opsD_opg {q : AOp} {g : Nat × Bool} (hq : isCall q = false) (h : gd rs (some g) = some true) : opsD P w0 cf (⟨d, some g, q⟩ :: l) rs e H tr K = thenO (aop q (ev rs e) H) fun v H' => opsD P w0 cf l (v :: rs) (e.put d v) H' (⟨touch q (ev rs e) H, H, H'⟩ :: tr) K := by
  rw [opsD]
  simp only [h]
  cases q <;> first | rfl | (simp [isCall] at hq)
theorem opsDf {q : AOp} {g : Nat × Bool} (h : gd rs (some g) = some false) : opsD P w0 cf (⟨d, some g, q⟩ :: l) rs e H tr K = opsD P w0 cf l (undef :: rs) (e.put d undef) H (⟨none, H, H⟩ :: tr) K := by rw [opsD]; simp only [h]
theorem opsD_end : opsD P w0 cf [] rs e H tr K = (condsD cf tr ∧ K e H) := rfl
theorem CW_dr : CW P w0 (.draw l cf) e H Q = opsD P w0 cf l [] e H [] (Q .normal) := rfl
theorem bool_splitD {b : Bool} (h1 : b = true → opsD P w0 cf l (.bool true :: rs) e H tr K) (h2 : b = false → opsD P w0 cf l (.bool false :: rs) e H tr K) : opsD P w0 cf l (.bool b :: rs) e H tr K := by cases b with
  | true => exact h1 rfl
  | false => exact h2 rfl
theorem opsD_call {f : FuncId} {xs : List AOpd} : opsD P w0 cf (⟨d, none, .call f xs⟩ :: l) rs e H tr K = callK P w0 f (evs (ev rs e) xs) H fun v H' => opsD P w0 cf l (v :: rs) (e.put d v) H' (⟨none, H, H'⟩ :: tr) K := by
  rw [opsD]; simp only [gd]; rfl
theorem opsD_callv {x : AOpd} {xs : List AOpd} : opsD P w0 cf (⟨d, none, .callv x xs⟩ :: l) rs e H tr K = callvK P w0 (ev rs e x) (evs (ev rs e) xs) H fun v H' => opsD P w0 cf l (v :: rs) (e.put d v) H' (⟨none, H, H'⟩ :: tr) K := by
  rw [opsD]; simp only [gd]; rfl

theorem opsD_mv {x : AOpd} : opsD P w0 cf (⟨d, none, .mv x⟩ :: l) rs e H tr K = thenO (mvO H (ev rs e x)) fun v H' => opsD P w0 cf l (v :: rs) (e.put d v) H' (⟨none, H, H'⟩ :: tr) K := by rw [opsD_op rfl, aop_mv]; rfl
theorem opsDt_mv {x : AOpd} {g : Nat × Bool} (h : gd rs (some g) = some true) : opsD P w0 cf (⟨d, some g, .mv x⟩ :: l) rs e H tr K = thenO (mvO H (ev rs e x)) fun v H' => opsD P w0 cf l (v :: rs) (e.put d v) H' (⟨none, H, H'⟩ :: tr) K := by rw [opsD_opg rfl h, aop_mv]; rfl
theorem opsD_pick {c x y : AOpd} : opsD P w0 cf (⟨d, none, .pick c x y⟩ :: l) rs e H tr K = thenO (pickO H (ev rs e c) (ev rs e x) (ev rs e y)) fun v H' => opsD P w0 cf l (v :: rs) (e.put d v) H' (⟨none, H, H'⟩ :: tr) K := by rw [opsD_op rfl, aop_pick]; rfl
theorem opsDt_pick {c x y : AOpd} {g : Nat × Bool} (h : gd rs (some g) = some true) : opsD P w0 cf (⟨d, some g, .pick c x y⟩ :: l) rs e H tr K = thenO (pickO H (ev rs e c) (ev rs e x) (ev rs e y)) fun v H' => opsD P w0 cf l (v :: rs) (e.put d v) H' (⟨none, H, H'⟩ :: tr) K := by rw [opsD_opg rfl h, aop_pick]; rfl
theorem opsD_alloc {ty : TypeId} {zs : List Value} : opsD P w0 cf (⟨d, none, .alloc ty zs⟩ :: l) rs e H tr K = thenO (some (pt H.n 0, H.alloc (.cells zs ty))) fun v H' => opsD P w0 cf l (v :: rs) (e.put d v) H' (⟨some H.n, H, H'⟩ :: tr) K := by rw [opsD_op rfl, aop_alloc]; rfl
theorem opsDt_alloc {ty : TypeId} {zs : List Value} {g : Nat × Bool} (h : gd rs (some g) = some true) : opsD P w0 cf (⟨d, some g, .alloc ty zs⟩ :: l) rs e H tr K = thenO (some (pt H.n 0, H.alloc (.cells zs ty))) fun v H' => opsD P w0 cf l (v :: rs) (e.put d v) H' (⟨some H.n, H, H'⟩ :: tr) K := by rw [opsD_opg rfl h, aop_alloc]; rfl
theorem opsD_box {ty : TypeId} {x : AOpd} : opsD P w0 cf (⟨d, none, .box ty x⟩ :: l) rs e H tr K = thenO (boxO ty H (ev rs e x)) fun v H' => opsD P w0 cf l (v :: rs) (e.put d v) H' (⟨some H.n, H, H'⟩ :: tr) K := by rw [opsD_op rfl, aop_box]; rfl
theorem opsDt_box {ty : TypeId} {x : AOpd} {g : Nat × Bool} (h : gd rs (some g) = some true) : opsD P w0 cf (⟨d, some g, .box ty x⟩ :: l) rs e H tr K = thenO (boxO ty H (ev rs e x)) fun v H' => opsD P w0 cf l (v :: rs) (e.put d v) H' (⟨some H.n, H, H'⟩ :: tr) K := by rw [opsD_opg rfl h, aop_box]; rfl
theorem opsD_build {zs : List Value} {pl : List (Nat × Nat)} {ps : List (Nat × AOpd)} : opsD P w0 cf (⟨d, none, .build zs pl ps⟩ :: l) rs e H tr K = thenO (buildO zs pl (evp (ev rs e) ps) H) fun v H' => opsD P w0 cf l (v :: rs) (e.put d v) H' (⟨none, H, H'⟩ :: tr) K := by rw [opsD_op rfl, aop_build]; rfl
theorem opsDt_build {zs : List Value} {pl : List (Nat × Nat)} {ps : List (Nat × AOpd)} {g : Nat × Bool} (h : gd rs (some g) = some true) : opsD P w0 cf (⟨d, some g, .build zs pl ps⟩ :: l) rs e H tr K = thenO (buildO zs pl (evp (ev rs e) ps) H) fun v H' => opsD P w0 cf l (v :: rs) (e.put d v) H' (⟨none, H, H'⟩ :: tr) K := by rw [opsD_opg rfl h, aop_build]; rfl
theorem opsD_mksl {ty : TypeId} {sz len : Nat} {zs : List Value} {ps : List (Nat × AOpd)} : opsD P w0 cf (⟨d, none, .mksl ty sz len zs ps⟩ :: l) rs e H tr K = thenO (mkslO ty sz len zs (evp (ev rs e) ps) H) fun v H' => opsD P w0 cf l (v :: rs) (e.put d v) H' (⟨some H.n, H, H'⟩ :: tr) K := by rw [opsD_op rfl, aop_mksl]; rfl
theorem opsDt_mksl {ty : TypeId} {sz len : Nat} {zs : List Value} {ps : List (Nat × AOpd)} {g : Nat × Bool} (h : gd rs (some g) = some true) : opsD P w0 cf (⟨d, some g, .mksl ty sz len zs ps⟩ :: l) rs e H tr K = thenO (mkslO ty sz len zs (evp (ev rs e) ps) H) fun v H' => opsD P w0 cf l (v :: rs) (e.put d v) H' (⟨some H.n, H, H'⟩ :: tr) K := by rw [opsD_opg rfl h, aop_mksl]; rfl
theorem opsD_ld {x : AOpd} : opsD P w0 cf (⟨d, none, .ld x⟩ :: l) rs e H tr K = thenO (ldO H (ev rs e x)) fun v H' => opsD P w0 cf l (v :: rs) (e.put d v) H' (⟨tchP (ev rs e x), H, H'⟩ :: tr) K := by rw [opsD_op rfl, aop_ld]; rfl
theorem opsDt_ld {x : AOpd} {g : Nat × Bool} (h : gd rs (some g) = some true) : opsD P w0 cf (⟨d, some g, .ld x⟩ :: l) rs e H tr K = thenO (ldO H (ev rs e x)) fun v H' => opsD P w0 cf l (v :: rs) (e.put d v) H' (⟨tchP (ev rs e x), H, H'⟩ :: tr) K := by rw [opsD_opg rfl h, aop_ld]; rfl
theorem opsD_ldn {n : Nat} {x : AOpd} : opsD P w0 cf (⟨d, none, .ldn n x⟩ :: l) rs e H tr K = thenO (ldnO n H (ev rs e x)) fun v H' => opsD P w0 cf l (v :: rs) (e.put d v) H' (⟨tchP (ev rs e x), H, H'⟩ :: tr) K := by rw [opsD_op rfl, aop_ldn]; rfl
theorem opsDt_ldn {n : Nat} {x : AOpd} {g : Nat × Bool} (h : gd rs (some g) = some true) : opsD P w0 cf (⟨d, some g, .ldn n x⟩ :: l) rs e H tr K = thenO (ldnO n H (ev rs e x)) fun v H' => opsD P w0 cf l (v :: rs) (e.put d v) H' (⟨tchP (ev rs e x), H, H'⟩ :: tr) K := by rw [opsD_opg rfl h, aop_ldn]; rfl
theorem opsD_st {n : Nat} {x y : AOpd} : opsD P w0 cf (⟨d, none, .st n x y⟩ :: l) rs e H tr K = thenO (stO n H (ev rs e x) (ev rs e y)) fun v H' => opsD P w0 cf l (v :: rs) (e.put d v) H' (⟨none, H, H'⟩ :: tr) K := by rw [opsD_op rfl, aop_st]; rfl
theorem opsDt_st {n : Nat} {x y : AOpd} {g : Nat × Bool} (h : gd rs (some g) = some true) : opsD P w0 cf (⟨d, some g, .st n x y⟩ :: l) rs e H tr K = thenO (stO n H (ev rs e x) (ev rs e y)) fun v H' => opsD P w0 cf l (v :: rs) (e.put d v) H' (⟨none, H, H'⟩ :: tr) K := by rw [opsD_opg rfl h, aop_st]; rfl
theorem opsD_bin {op : BinOp} {x y : AOpd} : opsD P w0 cf (⟨d, none, .bin op x y⟩ :: l) rs e H tr K = thenO (binO op H (ev rs e x) (ev rs e y)) fun v H' => opsD P w0 cf l (v :: rs) (e.put d v) H' (⟨none, H, H'⟩ :: tr) K := by rw [opsD_op rfl, aop_bin]; rfl
theorem opsDt_bin {op : BinOp} {x y : AOpd} {g : Nat × Bool} (h : gd rs (some g) = some true) : opsD P w0 cf (⟨d, some g, .bin op x y⟩ :: l) rs e H tr K = thenO (binO op H (ev rs e x) (ev rs e y)) fun v H' => opsD P w0 cf l (v :: rs) (e.put d v) H' (⟨none, H, H'⟩ :: tr) K := by rw [opsD_opg rfl h, aop_bin]; rfl
theorem opsD_un {op : UnOp} {x : AOpd} : opsD P w0 cf (⟨d, none, .un op x⟩ :: l) rs e H tr K = thenO (unO op H (ev rs e x)) fun v H' => opsD P w0 cf l (v :: rs) (e.put d v) H' (⟨none, H, H'⟩ :: tr) K := by rw [opsD_op rfl, aop_un]; rfl
theorem opsDt_un {op : UnOp} {x : AOpd} {g : Nat × Bool} (h : gd rs (some g) = some true) : opsD P w0 cf (⟨d, some g, .un op x⟩ :: l) rs e H tr K = thenO (unO op H (ev rs e x)) fun v H' => opsD P w0 cf l (v :: rs) (e.put d v) H' (⟨none, H, H'⟩ :: tr) K := by rw [opsD_opg rfl h, aop_un]; rfl
theorem opsD_cvi {k : IntKind} {x : AOpd} : opsD P w0 cf (⟨d, none, .cvi k x⟩ :: l) rs e H tr K = thenO (cviO k H (ev rs e x)) fun v H' => opsD P w0 cf l (v :: rs) (e.put d v) H' (⟨none, H, H'⟩ :: tr) K := by rw [opsD_op rfl, aop_cvi]; rfl
theorem opsDt_cvi {k : IntKind} {x : AOpd} {g : Nat × Bool} (h : gd rs (some g) = some true) : opsD P w0 cf (⟨d, some g, .cvi k x⟩ :: l) rs e H tr K = thenO (cviO k H (ev rs e x)) fun v H' => opsD P w0 cf l (v :: rs) (e.put d v) H' (⟨none, H, H'⟩ :: tr) K := by rw [opsD_opg rfl h, aop_cvi]; rfl
theorem opsD_mks {ty : TypeId} {zs : List Value} {bytes : Nat} {x y : AOpd} : opsD P w0 cf (⟨d, none, .mks ty zs bytes x y⟩ :: l) rs e H tr K = thenO (mksO ty zs bytes (ev rs e x) (ev rs e y) H) fun v H' => opsD P w0 cf l (v :: rs) (e.put d v) H' (⟨some H.n, H, H'⟩ :: tr) K := by rw [opsD_op rfl, aop_mks]; rfl
theorem opsDt_mks {ty : TypeId} {zs : List Value} {bytes : Nat} {x y : AOpd} {g : Nat × Bool} (h : gd rs (some g) = some true) : opsD P w0 cf (⟨d, some g, .mks ty zs bytes x y⟩ :: l) rs e H tr K = thenO (mksO ty zs bytes (ev rs e x) (ev rs e y) H) fun v H' => opsD P w0 cf l (v :: rs) (e.put d v) H' (⟨some H.n, H, H'⟩ :: tr) K := by rw [opsD_opg rfl h, aop_mks]; rfl
theorem opsD_slc {ty : TypeId} {sz : Nat} {x : AOpd} {lo hi : Option AOpd} : opsD P w0 cf (⟨d, none, .slc ty sz x lo hi⟩ :: l) rs e H tr K = thenO (slcO ty sz (ev rs e x) (evo (ev rs e) lo) (evo (ev rs e) hi) H) fun v H' => opsD P w0 cf l (v :: rs) (e.put d v) H' (⟨tchS (ev rs e x), H, H'⟩ :: tr) K := by rw [opsD_op rfl, aop_slc]; rfl
theorem opsDt_slc {ty : TypeId} {sz : Nat} {x : AOpd} {lo hi : Option AOpd} {g : Nat × Bool} (h : gd rs (some g) = some true) : opsD P w0 cf (⟨d, some g, .slc ty sz x lo hi⟩ :: l) rs e H tr K = thenO (slcO ty sz (ev rs e x) (evo (ev rs e) lo) (evo (ev rs e) hi) H) fun v H' => opsD P w0 cf l (v :: rs) (e.put d v) H' (⟨tchS (ev rs e x), H, H'⟩ :: tr) K := by rw [opsD_opg rfl h, aop_slc]; rfl
theorem opsD_fa {off : Nat} {x : AOpd} : opsD P w0 cf (⟨d, none, .fa off x⟩ :: l) rs e H tr K = thenO (faO off (ev rs e x) H) fun v H' => opsD P w0 cf l (v :: rs) (e.put d v) H' (⟨none, H, H'⟩ :: tr) K := by rw [opsD_op rfl, aop_fa]; rfl
theorem opsDt_fa {off : Nat} {x : AOpd} {g : Nat × Bool} (h : gd rs (some g) = some true) : opsD P w0 cf (⟨d, some g, .fa off x⟩ :: l) rs e H tr K = thenO (faO off (ev rs e x) H) fun v H' => opsD P w0 cf l (v :: rs) (e.put d v) H' (⟨none, H, H'⟩ :: tr) K := by rw [opsD_opg rfl h, aop_fa]; rfl
theorem opsD_fld {off : Nat} {n : Option Nat} {x : AOpd} : opsD P w0 cf (⟨d, none, .fld off n x⟩ :: l) rs e H tr K = thenO (fldO off n H (ev rs e x)) fun v H' => opsD P w0 cf l (v :: rs) (e.put d v) H' (⟨none, H, H'⟩ :: tr) K := by rw [opsD_op rfl, aop_fld]; rfl
theorem opsDt_fld {off : Nat} {n : Option Nat} {x : AOpd} {g : Nat × Bool} (h : gd rs (some g) = some true) : opsD P w0 cf (⟨d, some g, .fld off n x⟩ :: l) rs e H tr K = thenO (fldO off n H (ev rs e x)) fun v H' => opsD P w0 cf l (v :: rs) (e.put d v) H' (⟨none, H, H'⟩ :: tr) K := by rw [opsD_opg rfl h, aop_fld]; rfl
theorem opsD_ia {sz : Nat} {x i : AOpd} : opsD P w0 cf (⟨d, none, .ia sz x i⟩ :: l) rs e H tr K = thenO (iaO sz (ev rs e x) (ev rs e i) H) fun v H' => opsD P w0 cf l (v :: rs) (e.put d v) H' (⟨none, H, H'⟩ :: tr) K := by rw [opsD_op rfl, aop_ia]; rfl
theorem opsDt_ia {sz : Nat} {x i : AOpd} {g : Nat × Bool} (h : gd rs (some g) = some true) : opsD P w0 cf (⟨d, some g, .ia sz x i⟩ :: l) rs e H tr K = thenO (iaO sz (ev rs e x) (ev rs e i) H) fun v H' => opsD P w0 cf l (v :: rs) (e.put d v) H' (⟨none, H, H'⟩ :: tr) K := by rw [opsD_opg rfl h, aop_ia]; rfl
theorem opsD_ext {k : Nat} {x : AOpd} : opsD P w0 cf (⟨d, none, .ext k x⟩ :: l) rs e H tr K = thenO (extO k H (ev rs e x)) fun v H' => opsD P w0 cf l (v :: rs) (e.put d v) H' (⟨none, H, H'⟩ :: tr) K := by rw [opsD_op rfl, aop_ext]; rfl
theorem opsDt_ext {k : Nat} {x : AOpd} {g : Nat × Bool} (h : gd rs (some g) = some true) : opsD P w0 cf (⟨d, some g, .ext k x⟩ :: l) rs e H tr K = thenO (extO k H (ev rs e x)) fun v H' => opsD P w0 cf l (v :: rs) (e.put d v) H' (⟨none, H, H'⟩ :: tr) K := by rw [opsD_opg rfl h, aop_ext]; rfl
theorem opsD_len {x : AOpd} : opsD P w0 cf (⟨d, none, .len x⟩ :: l) rs e H tr K = thenO (lenO (ev rs e x) H) fun v H' => opsD P w0 cf l (v :: rs) (e.put d v) H' (⟨none, H, H'⟩ :: tr) K := by rw [opsD_op rfl, aop_len]; rfl
theorem opsDt_len {x : AOpd} {g : Nat × Bool} (h : gd rs (some g) = some true) : opsD P w0 cf (⟨d, some g, .len x⟩ :: l) rs e H tr K = thenO (lenO (ev rs e x) H) fun v H' => opsD P w0 cf l (v :: rs) (e.put d v) H' (⟨none, H, H'⟩ :: tr) K := by rw [opsD_opg rfl h, aop_len]; rfl
theorem opsD_app {ty : TypeId} {sz bytes : Nat} {x y : AOpd} : opsD P w0 cf (⟨d, none, .app ty sz bytes x y⟩ :: l) rs e H tr K = thenO (appO ty sz bytes (ev rs e x) (ev rs e y) H) fun v H' => opsD P w0 cf l (v :: rs) (e.put d v) H' (⟨none, H, H'⟩ :: tr) K := by rw [opsD_op rfl, aop_app]; rfl
theorem opsDt_app {ty : TypeId} {sz bytes : Nat} {x y : AOpd} {g : Nat × Bool} (h : gd rs (some g) = some true) : opsD P w0 cf (⟨d, some g, .app ty sz bytes x y⟩ :: l) rs e H tr K = thenO (appO ty sz bytes (ev rs e x) (ev rs e y) H) fun v H' => opsD P w0 cf l (v :: rs) (e.put d v) H' (⟨none, H, H'⟩ :: tr) K := by rw [opsD_opg rfl h, aop_app]; rfl
theorem opsD_nilck {x : AOpd} : opsD P w0 cf (⟨d, none, .nilck x⟩ :: l) rs e H tr K = thenO (nilckO H (ev rs e x)) fun v H' => opsD P w0 cf l (v :: rs) (e.put d v) H' (⟨none, H, H'⟩ :: tr) K := by rw [opsD_op rfl, aop_nilck]; rfl
theorem opsDt_nilck {x : AOpd} {g : Nat × Bool} (h : gd rs (some g) = some true) : opsD P w0 cf (⟨d, some g, .nilck x⟩ :: l) rs e H tr K = thenO (nilckO H (ev rs e x)) fun v H' => opsD P w0 cf l (v :: rs) (e.put d v) H' (⟨none, H, H'⟩ :: tr) K := by rw [opsD_opg rfl h, aop_nilck]; rfl
theorem opsD_fn {n : Fn} {fs cs : List AOpd} : opsD P w0 cf (⟨d, none, .fn n fs cs⟩ :: l) rs e H tr K = thenO (fnO n H (evs (ev rs e) fs) (evs (ev rs e) cs)) fun v H' => opsD P w0 cf l (v :: rs) (e.put d v) H' (⟨none, H, H'⟩ :: tr) K := by rw [opsD_op rfl, aop_fn]; rfl
theorem opsDt_fn {n : Fn} {fs cs : List AOpd} {g : Nat × Bool} (h : gd rs (some g) = some true) : opsD P w0 cf (⟨d, some g, .fn n fs cs⟩ :: l) rs e H tr K = thenO (fnO n H (evs (ev rs e) fs) (evs (ev rs e) cs)) fun v H' => opsD P w0 cf l (v :: rs) (e.put d v) H' (⟨none, H, H'⟩ :: tr) K := by rw [opsD_opg rfl h, aop_fn]; rfl
theorem opsD_ifc {t : TypeId} {x : AOpd} : opsD P w0 cf (⟨d, none, .ifc t x⟩ :: l) rs e H tr K = thenO (ifcO t H (ev rs e x)) fun v H' => opsD P w0 cf l (v :: rs) (e.put d v) H' (⟨none, H, H'⟩ :: tr) K := by rw [opsD_op rfl, aop_ifc]; rfl
theorem opsDt_ifc {t : TypeId} {x : AOpd} {g : Nat × Bool} (h : gd rs (some g) = some true) : opsD P w0 cf (⟨d, some g, .ifc t x⟩ :: l) rs e H tr K = thenO (ifcO t H (ev rs e x)) fun v H' => opsD P w0 cf l (v :: rs) (e.put d v) H' (⟨none, H, H'⟩ :: tr) K := by rw [opsD_opg rfl h, aop_ifc]; rfl
theorem opsD_copy {sz : Nat} {x y : AOpd} : opsD P w0 cf (⟨d, none, .copy sz x y⟩ :: l) rs e H tr K = thenO (copyO H sz (ev rs e x) (ev rs e y)) fun v H' => opsD P w0 cf l (v :: rs) (e.put d v) H' (⟨none, H, H'⟩ :: tr) K := by rw [opsD_op rfl, aop_copy]; rfl
theorem opsDt_copy {sz : Nat} {x y : AOpd} {g : Nat × Bool} (h : gd rs (some g) = some true) : opsD P w0 cf (⟨d, some g, .copy sz x y⟩ :: l) rs e H tr K = thenO (copyO H sz (ev rs e x) (ev rs e y)) fun v H' => opsD P w0 cf l (v :: rs) (e.put d v) H' (⟨none, H, H'⟩ :: tr) K := by rw [opsD_opg rfl h, aop_copy]; rfl
theorem opsD_mn {xs : List AOpd} : opsD P w0 cf (⟨d, none, .mn xs⟩ :: l) rs e H tr K = thenO (mnO H (evs (ev rs e) xs)) fun v H' => opsD P w0 cf l (v :: rs) (e.put d v) H' (⟨none, H, H'⟩ :: tr) K := by rw [opsD_op rfl, aop_mn]; rfl
theorem opsDt_mn {xs : List AOpd} {g : Nat × Bool} (h : gd rs (some g) = some true) : opsD P w0 cf (⟨d, some g, .mn xs⟩ :: l) rs e H tr K = thenO (mnO H (evs (ev rs e) xs)) fun v H' => opsD P w0 cf l (v :: rs) (e.put d v) H' (⟨none, H, H'⟩ :: tr) K := by rw [opsD_opg rfl h, aop_mn]; rfl
end Go.AB
