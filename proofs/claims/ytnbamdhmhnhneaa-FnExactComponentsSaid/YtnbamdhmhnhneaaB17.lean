/- Own framework, part 17: a step for each kind of operation. (Printed by mkb17.py.) -/
import Derived.Test.YtnbamdhmhnhneaaB16
set_option linter.unusedVariables false
namespace Go.AB
variable {P : Program} {w0 : World} {H : AHeap} {e : Env} {rs : List Value} {d : Option Nat} {l : List AOper} {K : Env → AHeap → Prop} {ρ : AOpd → Option Value}
def nilckO (H : AHeap) (x : Option Value) : Option (Value × AHeap) := match x with
  | some (.pointer (some a)) => some (.pointer (some a), H)
  | some (.func (.func n) fs cs) => some (.func (.func n) fs cs, H)
  | _ => none
theorem aop_nilck {x : AOpd} : aop (.nilck x) ρ H = nilckO H (ρ x) := rfl
theorem nilck_pt {b o : Nat} : nilckO H (some (pt b o)) = some (pt b o, H) := rfl
theorem nilck_func {n : FuncId} {fs cs : Array Value} : nilckO H (some (.func (.func n) fs cs)) = some (.func (.func n) fs cs, H) := rfl
def fnO (n : Fn) (H : AHeap) (fs cs : Option (List Value)) : Option (Value × AHeap) := match fs, cs with
  | some a, some b => some (.func n a.toArray b.toArray, H)
  | _, _ => none
theorem aop_fn {n : Fn} {fs cs : List AOpd} : aop (.fn n fs cs) ρ H = fnO n H (evs ρ fs) (evs ρ cs) := rfl
theorem fnO_some {n : Fn} {a b : List Value} : fnO n H (some a) (some b) = some (.func n a.toArray b.toArray, H) := rfl
def ifcO (t : TypeId) (H : AHeap) (x : Option Value) : Option (Value × AHeap) := match x with
  | some v => some (.iface t v, H)
  | none => none
theorem aop_ifc {t : TypeId} {x : AOpd} : aop (.ifc t x) ρ H = ifcO t H (ρ x) := rfl
theorem ifcO_some {t : TypeId} {v : Value} : ifcO t H (some v) = some (.iface t v, H) := rfl
def mnO (H : AHeap) (xs : Option (List Value)) : Option (Value × AHeap) := match xs with
  | some (v :: vs) => match minL v vs with
      | some u => some (u, H)
      | none => none
  | _ => none
theorem aop_mn {xs : List AOpd} : aop (.mn xs) ρ H = mnO H (evs ρ xs) := rfl
theorem mn_two {k : IntKind} {a b : Int} : mnO H (some [.int k a, .int k b]) = some (.int k (if b < a then b else a), H) := rfl

theorem opsW_mv {x : AOpd} : opsW P w0 (⟨d, none, .mv x⟩ :: l) rs e H K = thenO (mvO H (ev rs e x)) fun v H' => opsW P w0 l (v :: rs) (e.put d v) H' K := by rw [opsW_op rfl, aop_mv]
theorem opsWt_mv {x : AOpd} {g : Nat × Bool} (h : gd rs (some g) = some true) : opsW P w0 (⟨d, some g, .mv x⟩ :: l) rs e H K = thenO (mvO H (ev rs e x)) fun v H' => opsW P w0 l (v :: rs) (e.put d v) H' K := by rw [opsW_opg rfl, aop_mv, h]; rfl
theorem opsW_pick {c x y : AOpd} : opsW P w0 (⟨d, none, .pick c x y⟩ :: l) rs e H K = thenO (pickO H (ev rs e c) (ev rs e x) (ev rs e y)) fun v H' => opsW P w0 l (v :: rs) (e.put d v) H' K := by rw [opsW_op rfl, aop_pick]
theorem opsWt_pick {c x y : AOpd} {g : Nat × Bool} (h : gd rs (some g) = some true) : opsW P w0 (⟨d, some g, .pick c x y⟩ :: l) rs e H K = thenO (pickO H (ev rs e c) (ev rs e x) (ev rs e y)) fun v H' => opsW P w0 l (v :: rs) (e.put d v) H' K := by rw [opsW_opg rfl, aop_pick, h]; rfl
theorem opsW_alloc {ty : TypeId} {zs : List Value} : opsW P w0 (⟨d, none, .alloc ty zs⟩ :: l) rs e H K = thenO (some (pt H.n 0, H.alloc (.cells zs ty))) fun v H' => opsW P w0 l (v :: rs) (e.put d v) H' K := by rw [opsW_op rfl, aop_alloc]
theorem opsWt_alloc {ty : TypeId} {zs : List Value} {g : Nat × Bool} (h : gd rs (some g) = some true) : opsW P w0 (⟨d, some g, .alloc ty zs⟩ :: l) rs e H K = thenO (some (pt H.n 0, H.alloc (.cells zs ty))) fun v H' => opsW P w0 l (v :: rs) (e.put d v) H' K := by rw [opsW_opg rfl, aop_alloc, h]; rfl
theorem opsW_box {ty : TypeId} {x : AOpd} : opsW P w0 (⟨d, none, .box ty x⟩ :: l) rs e H K = thenO (boxO ty H (ev rs e x)) fun v H' => opsW P w0 l (v :: rs) (e.put d v) H' K := by rw [opsW_op rfl, aop_box]
theorem opsWt_box {ty : TypeId} {x : AOpd} {g : Nat × Bool} (h : gd rs (some g) = some true) : opsW P w0 (⟨d, some g, .box ty x⟩ :: l) rs e H K = thenO (boxO ty H (ev rs e x)) fun v H' => opsW P w0 l (v :: rs) (e.put d v) H' K := by rw [opsW_opg rfl, aop_box, h]; rfl
theorem opsW_build {zs : List Value} {pl : List (Nat × Nat)} {ps : List (Nat × AOpd)} : opsW P w0 (⟨d, none, .build zs pl ps⟩ :: l) rs e H K = thenO (buildO zs pl (evp (ev rs e) ps) H) fun v H' => opsW P w0 l (v :: rs) (e.put d v) H' K := by rw [opsW_op rfl, aop_build]
theorem opsWt_build {zs : List Value} {pl : List (Nat × Nat)} {ps : List (Nat × AOpd)} {g : Nat × Bool} (h : gd rs (some g) = some true) : opsW P w0 (⟨d, some g, .build zs pl ps⟩ :: l) rs e H K = thenO (buildO zs pl (evp (ev rs e) ps) H) fun v H' => opsW P w0 l (v :: rs) (e.put d v) H' K := by rw [opsW_opg rfl, aop_build, h]; rfl
theorem opsW_mksl {ty : TypeId} {sz len : Nat} {zs : List Value} {ps : List (Nat × AOpd)} : opsW P w0 (⟨d, none, .mksl ty sz len zs ps⟩ :: l) rs e H K = thenO (mkslO ty sz len zs (evp (ev rs e) ps) H) fun v H' => opsW P w0 l (v :: rs) (e.put d v) H' K := by rw [opsW_op rfl, aop_mksl]
theorem opsWt_mksl {ty : TypeId} {sz len : Nat} {zs : List Value} {ps : List (Nat × AOpd)} {g : Nat × Bool} (h : gd rs (some g) = some true) : opsW P w0 (⟨d, some g, .mksl ty sz len zs ps⟩ :: l) rs e H K = thenO (mkslO ty sz len zs (evp (ev rs e) ps) H) fun v H' => opsW P w0 l (v :: rs) (e.put d v) H' K := by rw [opsW_opg rfl, aop_mksl, h]; rfl
theorem opsW_ld {x : AOpd} : opsW P w0 (⟨d, none, .ld x⟩ :: l) rs e H K = thenO (ldO H (ev rs e x)) fun v H' => opsW P w0 l (v :: rs) (e.put d v) H' K := by rw [opsW_op rfl, aop_ld]
theorem opsWt_ld {x : AOpd} {g : Nat × Bool} (h : gd rs (some g) = some true) : opsW P w0 (⟨d, some g, .ld x⟩ :: l) rs e H K = thenO (ldO H (ev rs e x)) fun v H' => opsW P w0 l (v :: rs) (e.put d v) H' K := by rw [opsW_opg rfl, aop_ld, h]; rfl
theorem opsW_ldn {n : Nat} {x : AOpd} : opsW P w0 (⟨d, none, .ldn n x⟩ :: l) rs e H K = thenO (ldnO n H (ev rs e x)) fun v H' => opsW P w0 l (v :: rs) (e.put d v) H' K := by rw [opsW_op rfl, aop_ldn]
theorem opsWt_ldn {n : Nat} {x : AOpd} {g : Nat × Bool} (h : gd rs (some g) = some true) : opsW P w0 (⟨d, some g, .ldn n x⟩ :: l) rs e H K = thenO (ldnO n H (ev rs e x)) fun v H' => opsW P w0 l (v :: rs) (e.put d v) H' K := by rw [opsW_opg rfl, aop_ldn, h]; rfl
theorem opsW_st {n : Nat} {x y : AOpd} : opsW P w0 (⟨d, none, .st n x y⟩ :: l) rs e H K = thenO (stO n H (ev rs e x) (ev rs e y)) fun v H' => opsW P w0 l (v :: rs) (e.put d v) H' K := by rw [opsW_op rfl, aop_st]
theorem opsWt_st {n : Nat} {x y : AOpd} {g : Nat × Bool} (h : gd rs (some g) = some true) : opsW P w0 (⟨d, some g, .st n x y⟩ :: l) rs e H K = thenO (stO n H (ev rs e x) (ev rs e y)) fun v H' => opsW P w0 l (v :: rs) (e.put d v) H' K := by rw [opsW_opg rfl, aop_st, h]; rfl
theorem opsW_bin {op : BinOp} {x y : AOpd} : opsW P w0 (⟨d, none, .bin op x y⟩ :: l) rs e H K = thenO (binO op H (ev rs e x) (ev rs e y)) fun v H' => opsW P w0 l (v :: rs) (e.put d v) H' K := by rw [opsW_op rfl, aop_bin]
theorem opsWt_bin {op : BinOp} {x y : AOpd} {g : Nat × Bool} (h : gd rs (some g) = some true) : opsW P w0 (⟨d, some g, .bin op x y⟩ :: l) rs e H K = thenO (binO op H (ev rs e x) (ev rs e y)) fun v H' => opsW P w0 l (v :: rs) (e.put d v) H' K := by rw [opsW_opg rfl, aop_bin, h]; rfl
theorem opsW_un {op : UnOp} {x : AOpd} : opsW P w0 (⟨d, none, .un op x⟩ :: l) rs e H K = thenO (unO op H (ev rs e x)) fun v H' => opsW P w0 l (v :: rs) (e.put d v) H' K := by rw [opsW_op rfl, aop_un]
theorem opsWt_un {op : UnOp} {x : AOpd} {g : Nat × Bool} (h : gd rs (some g) = some true) : opsW P w0 (⟨d, some g, .un op x⟩ :: l) rs e H K = thenO (unO op H (ev rs e x)) fun v H' => opsW P w0 l (v :: rs) (e.put d v) H' K := by rw [opsW_opg rfl, aop_un, h]; rfl
theorem opsW_cvi {k : IntKind} {x : AOpd} : opsW P w0 (⟨d, none, .cvi k x⟩ :: l) rs e H K = thenO (cviO k H (ev rs e x)) fun v H' => opsW P w0 l (v :: rs) (e.put d v) H' K := by rw [opsW_op rfl, aop_cvi]
theorem opsWt_cvi {k : IntKind} {x : AOpd} {g : Nat × Bool} (h : gd rs (some g) = some true) : opsW P w0 (⟨d, some g, .cvi k x⟩ :: l) rs e H K = thenO (cviO k H (ev rs e x)) fun v H' => opsW P w0 l (v :: rs) (e.put d v) H' K := by rw [opsW_opg rfl, aop_cvi, h]; rfl
theorem opsW_mks {ty : TypeId} {zs : List Value} {bytes : Nat} {x y : AOpd} : opsW P w0 (⟨d, none, .mks ty zs bytes x y⟩ :: l) rs e H K = thenO (mksO ty zs bytes (ev rs e x) (ev rs e y) H) fun v H' => opsW P w0 l (v :: rs) (e.put d v) H' K := by rw [opsW_op rfl, aop_mks]
theorem opsWt_mks {ty : TypeId} {zs : List Value} {bytes : Nat} {x y : AOpd} {g : Nat × Bool} (h : gd rs (some g) = some true) : opsW P w0 (⟨d, some g, .mks ty zs bytes x y⟩ :: l) rs e H K = thenO (mksO ty zs bytes (ev rs e x) (ev rs e y) H) fun v H' => opsW P w0 l (v :: rs) (e.put d v) H' K := by rw [opsW_opg rfl, aop_mks, h]; rfl
theorem opsW_slc {ty : TypeId} {sz : Nat} {x : AOpd} {lo hi : Option AOpd} : opsW P w0 (⟨d, none, .slc ty sz x lo hi⟩ :: l) rs e H K = thenO (slcO ty sz (ev rs e x) (evo (ev rs e) lo) (evo (ev rs e) hi) H) fun v H' => opsW P w0 l (v :: rs) (e.put d v) H' K := by rw [opsW_op rfl, aop_slc]
theorem opsWt_slc {ty : TypeId} {sz : Nat} {x : AOpd} {lo hi : Option AOpd} {g : Nat × Bool} (h : gd rs (some g) = some true) : opsW P w0 (⟨d, some g, .slc ty sz x lo hi⟩ :: l) rs e H K = thenO (slcO ty sz (ev rs e x) (evo (ev rs e) lo) (evo (ev rs e) hi) H) fun v H' => opsW P w0 l (v :: rs) (e.put d v) H' K := by rw [opsW_opg rfl, aop_slc, h]; rfl
theorem opsW_fa {off : Nat} {x : AOpd} : opsW P w0 (⟨d, none, .fa off x⟩ :: l) rs e H K = thenO (faO off (ev rs e x) H) fun v H' => opsW P w0 l (v :: rs) (e.put d v) H' K := by rw [opsW_op rfl, aop_fa]
theorem opsWt_fa {off : Nat} {x : AOpd} {g : Nat × Bool} (h : gd rs (some g) = some true) : opsW P w0 (⟨d, some g, .fa off x⟩ :: l) rs e H K = thenO (faO off (ev rs e x) H) fun v H' => opsW P w0 l (v :: rs) (e.put d v) H' K := by rw [opsW_opg rfl, aop_fa, h]; rfl
theorem opsW_fld {off : Nat} {n : Option Nat} {x : AOpd} : opsW P w0 (⟨d, none, .fld off n x⟩ :: l) rs e H K = thenO (fldO off n H (ev rs e x)) fun v H' => opsW P w0 l (v :: rs) (e.put d v) H' K := by rw [opsW_op rfl, aop_fld]
theorem opsWt_fld {off : Nat} {n : Option Nat} {x : AOpd} {g : Nat × Bool} (h : gd rs (some g) = some true) : opsW P w0 (⟨d, some g, .fld off n x⟩ :: l) rs e H K = thenO (fldO off n H (ev rs e x)) fun v H' => opsW P w0 l (v :: rs) (e.put d v) H' K := by rw [opsW_opg rfl, aop_fld, h]; rfl
theorem opsW_ia {sz : Nat} {x i : AOpd} : opsW P w0 (⟨d, none, .ia sz x i⟩ :: l) rs e H K = thenO (iaO sz (ev rs e x) (ev rs e i) H) fun v H' => opsW P w0 l (v :: rs) (e.put d v) H' K := by rw [opsW_op rfl, aop_ia]
theorem opsWt_ia {sz : Nat} {x i : AOpd} {g : Nat × Bool} (h : gd rs (some g) = some true) : opsW P w0 (⟨d, some g, .ia sz x i⟩ :: l) rs e H K = thenO (iaO sz (ev rs e x) (ev rs e i) H) fun v H' => opsW P w0 l (v :: rs) (e.put d v) H' K := by rw [opsW_opg rfl, aop_ia, h]; rfl
theorem opsW_ext {k : Nat} {x : AOpd} : opsW P w0 (⟨d, none, .ext k x⟩ :: l) rs e H K = thenO (extO k H (ev rs e x)) fun v H' => opsW P w0 l (v :: rs) (e.put d v) H' K := by rw [opsW_op rfl, aop_ext]
theorem opsWt_ext {k : Nat} {x : AOpd} {g : Nat × Bool} (h : gd rs (some g) = some true) : opsW P w0 (⟨d, some g, .ext k x⟩ :: l) rs e H K = thenO (extO k H (ev rs e x)) fun v H' => opsW P w0 l (v :: rs) (e.put d v) H' K := by rw [opsW_opg rfl, aop_ext, h]; rfl
theorem opsW_len {x : AOpd} : opsW P w0 (⟨d, none, .len x⟩ :: l) rs e H K = thenO (lenO (ev rs e x) H) fun v H' => opsW P w0 l (v :: rs) (e.put d v) H' K := by rw [opsW_op rfl, aop_len]
theorem opsWt_len {x : AOpd} {g : Nat × Bool} (h : gd rs (some g) = some true) : opsW P w0 (⟨d, some g, .len x⟩ :: l) rs e H K = thenO (lenO (ev rs e x) H) fun v H' => opsW P w0 l (v :: rs) (e.put d v) H' K := by rw [opsW_opg rfl, aop_len, h]; rfl
theorem opsW_app {ty : TypeId} {sz bytes : Nat} {x y : AOpd} : opsW P w0 (⟨d, none, .app ty sz bytes x y⟩ :: l) rs e H K = thenO (appO ty sz bytes (ev rs e x) (ev rs e y) H) fun v H' => opsW P w0 l (v :: rs) (e.put d v) H' K := by rw [opsW_op rfl, aop_app]
theorem opsWt_app {ty : TypeId} {sz bytes : Nat} {x y : AOpd} {g : Nat × Bool} (h : gd rs (some g) = some true) : opsW P w0 (⟨d, some g, .app ty sz bytes x y⟩ :: l) rs e H K = thenO (appO ty sz bytes (ev rs e x) (ev rs e y) H) fun v H' => opsW P w0 l (v :: rs) (e.put d v) H' K := by rw [opsW_opg rfl, aop_app, h]; rfl
theorem opsW_nilck {x : AOpd} : opsW P w0 (⟨d, none, .nilck x⟩ :: l) rs e H K = thenO (nilckO H (ev rs e x)) fun v H' => opsW P w0 l (v :: rs) (e.put d v) H' K := by rw [opsW_op rfl, aop_nilck]
theorem opsWt_nilck {x : AOpd} {g : Nat × Bool} (h : gd rs (some g) = some true) : opsW P w0 (⟨d, some g, .nilck x⟩ :: l) rs e H K = thenO (nilckO H (ev rs e x)) fun v H' => opsW P w0 l (v :: rs) (e.put d v) H' K := by rw [opsW_opg rfl, aop_nilck, h]; rfl
theorem opsW_fn {n : Fn} {fs cs : List AOpd} : opsW P w0 (⟨d, none, .fn n fs cs⟩ :: l) rs e H K = thenO (fnO n H (evs (ev rs e) fs) (evs (ev rs e) cs)) fun v H' => opsW P w0 l (v :: rs) (e.put d v) H' K := by rw [opsW_op rfl, aop_fn]
theorem opsWt_fn {n : Fn} {fs cs : List AOpd} {g : Nat × Bool} (h : gd rs (some g) = some true) : opsW P w0 (⟨d, some g, .fn n fs cs⟩ :: l) rs e H K = thenO (fnO n H (evs (ev rs e) fs) (evs (ev rs e) cs)) fun v H' => opsW P w0 l (v :: rs) (e.put d v) H' K := by rw [opsW_opg rfl, aop_fn, h]; rfl
theorem opsW_ifc {t : TypeId} {x : AOpd} : opsW P w0 (⟨d, none, .ifc t x⟩ :: l) rs e H K = thenO (ifcO t H (ev rs e x)) fun v H' => opsW P w0 l (v :: rs) (e.put d v) H' K := by rw [opsW_op rfl, aop_ifc]
theorem opsWt_ifc {t : TypeId} {x : AOpd} {g : Nat × Bool} (h : gd rs (some g) = some true) : opsW P w0 (⟨d, some g, .ifc t x⟩ :: l) rs e H K = thenO (ifcO t H (ev rs e x)) fun v H' => opsW P w0 l (v :: rs) (e.put d v) H' K := by rw [opsW_opg rfl, aop_ifc, h]; rfl
theorem opsW_copy {sz : Nat} {x y : AOpd} : opsW P w0 (⟨d, none, .copy sz x y⟩ :: l) rs e H K = thenO (copyO H sz (ev rs e x) (ev rs e y)) fun v H' => opsW P w0 l (v :: rs) (e.put d v) H' K := by rw [opsW_op rfl, aop_copy]
theorem opsWt_copy {sz : Nat} {x y : AOpd} {g : Nat × Bool} (h : gd rs (some g) = some true) : opsW P w0 (⟨d, some g, .copy sz x y⟩ :: l) rs e H K = thenO (copyO H sz (ev rs e x) (ev rs e y)) fun v H' => opsW P w0 l (v :: rs) (e.put d v) H' K := by rw [opsW_opg rfl, aop_copy, h]; rfl
theorem opsW_mn {xs : List AOpd} : opsW P w0 (⟨d, none, .mn xs⟩ :: l) rs e H K = thenO (mnO H (evs (ev rs e) xs)) fun v H' => opsW P w0 l (v :: rs) (e.put d v) H' K := by rw [opsW_op rfl, aop_mn]
theorem opsWt_mn {xs : List AOpd} {g : Nat × Bool} (h : gd rs (some g) = some true) : opsW P w0 (⟨d, some g, .mn xs⟩ :: l) rs e H K = thenO (mnO H (evs (ev rs e) xs)) fun v H' => opsW P w0 l (v :: rs) (e.put d v) H' K := by rw [opsW_opg rfl, aop_mn, h]; rfl

theorem opsWt_call {f : FuncId} {xs : List AOpd} {g : Nat × Bool} (h : gd rs (some g) = some true) : opsW P w0 (⟨d, some g, .call f xs⟩ :: l) rs e H K = callK P w0 f (evs (ev rs e) xs) H fun v H' => opsW P w0 l (v :: rs) (e.put d v) H' K := by rw [opsW_callg, h]; rfl
theorem opsWt_callv {x : AOpd} {xs : List AOpd} {g : Nat × Bool} (h : gd rs (some g) = some true) : opsW P w0 (⟨d, some g, .callv x xs⟩ :: l) rs e H K = callvK P w0 (ev rs e x) (evs (ev rs e) xs) H fun v H' => opsW P w0 l (v :: rs) (e.put d v) H' K := by rw [opsW_callvg, h]; rfl
theorem opsWf {q : AOp} {g : Nat × Bool} (h : gd rs (some g) = some false) : opsW P w0 (⟨d, some g, q⟩ :: l) rs e H K = opsW P w0 l (undef :: rs) (e.put d undef) H K := by rw [opsW]; simp only [h]
theorem iaO_n1 {s : SV} {sz n : Nat} {k : IntKind} (h : n + 1 < s.len) : iaO sz (some s.v) (some (.int k ((n : Int) + 1))) H = some (s.p ((n + 1) * sz), H) := iaO_n (n := n + 1) h
theorem condK_true {A B : Prop} : condK (some (.bool true)) A B = A := rfl
theorem condK_false {A B : Prop} : condK (some (.bool false)) A B = B := rfl
theorem bool_split {b : Bool} (h1 : b = true → opsW P w0 l (.bool true :: rs) e H K) (h2 : b = false → opsW P w0 l (.bool false :: rs) e H K) : opsW P w0 l (.bool b :: rs) e H K := by cases b with
  | true => exact h1 rfl
  | false => exact h2 rfl
theorem opsW_opsD : ∀ (l : List AOper) (rs : List Value) (e : Env) (H : AHeap) (tr : List Rec), opsD P w0 [] l rs e H tr K → opsW P w0 l rs e H K
  | [], rs, e, H, tr, h => h.2
  | o :: l, rs, e, H, tr, h => by
    unfold opsD at h
    split at h
    · rename_i hg
      rw [opsW]; simp only [hg]; exact opsW_opsD l _ _ _ _ h
    · rename_i hg
      split at h
      · rename_i f xs hop
        split at h
        · rename_i vs hvs
          obtain ⟨v, H1, hc, hn, hr⟩ := h
          rw [opsW]; simp only [hg, hop, hvs]
          exact ⟨v, H1, hc, hn, opsW_opsD l _ _ _ _ hr⟩
        · exact h.elim
      · rename_i x xs hop
        split at h
        · rename_i t vs ht hvs
          split at h
          · rename_i f fs cs htg
            obtain ⟨hcb, v, H1, hc, hn, hr⟩ := h
            rw [opsW]; simp only [hg, hop, ht, hvs, htg]
            exact ⟨hcb, v, H1, hc, hn, opsW_opsD l _ _ _ _ hr⟩
          · exact h.elim
        · exact h.elim
      · rename_i hno1 hno2
        split at h
        · rename_i v H1 hv
          rw [opsW]; simp only [hg]
          simp only [hv]; exact opsW_opsD l _ _ _ _ h
        · exact h.elim
    · exact h.elim
variable {Q : AX → Env → AHeap → Prop} {a : AC} {id : Nat}
theorem CW_drawn : CW P w0 (.draw l []) e H Q = opsW P w0 l [] e H (Q .normal) := propext ⟨fun h => opsW_opsD l [] e H [] h, fun h => CW_draw0 h⟩
def stepK (I : Nat → Env → AHeap → Prop) (n : Nat) (Q : AX → Env → AHeap → Prop) : AX → Env → AHeap → Prop := fun x e' H' => match x with
    | .normal => ∃ m, m < n ∧ I m e' H'
    | x => Q x e' H'
theorem stepK_normal {I : Nat → Env → AHeap → Prop} {n : Nat} : stepK I n Q .normal e H = ∃ m, m < n ∧ I m e H := rfl
theorem stepK_exit {I : Nat → Env → AHeap → Prop} {n : Nat} : stepK I n Q (.exit id) e H = Q (.exit id) e H := rfl
theorem stepK_ret {I : Nat → Env → AHeap → Prop} {n : Nat} : stepK I n Q .ret e H = Q .ret e H := rfl
theorem CW_inv (I : Nat → Env → AHeap → Prop) (n : Nat) (h0 : I n e H) (hs : ∀ n e H, I n e H → CW P w0 a e H (stepK I n Q)) : CW P w0 (.loop a) e H Q :=
  CW_loop I n h0 fun n e H h => CW_mono (hs n e H h) fun x e' H' _ hx => by cases x <;> exact hx

end Go.AB
