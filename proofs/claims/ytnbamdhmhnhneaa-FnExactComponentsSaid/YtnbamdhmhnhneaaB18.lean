/- Own framework, part 18: objects that are known cell by cell. -/
import Derived.Test.YtnbamdhmhnhneaaB17
set_option linter.unusedVariables false
set_option linter.unusedSimpArgs false
namespace Go.AB
variable {H : AHeap} {o : AObj} {b c off n : Nat} {vs us : List Value} {ty : TypeId} {v : Value} {s t : SV} {sz : Nat} {cs : List Value}

def ldC (H : AHeap) (o : AObj) (off : Nat) : Option (Value × AHeap) := match o with
  | .cells vs _ => vs[off]?.map (·, H)
  | .ro vs => vs[off]?.map (·, H)
  | _ => none
theorem ldO_at : ldO H (some (pt b off)) = ldC H (H.get b) off := by
  simp only [ldO, cellsAt]
  cases H.get b <;> simp only [ldC]
  · rename_i vs ty; cases vs[off]? <;> rfl
  · rename_i vs; cases vs[off]? <;> rfl
theorem ldC_cells : ldC H (.cells vs ty) off = vs[off]?.map (·, H) := rfl
def ldnC (n : Nat) (H : AHeap) (o : AObj) (off : Nat) : Option (Value × AHeap) := match o with
  | .cells vs _ => (seg vs off n).map fun ws => (.agg ws.toArray, H)
  | .ro vs => (seg vs off n).map fun ws => (.agg ws.toArray, H)
  | _ => none
theorem ldnO_at : ldnO n H (some (pt b off)) = ldnC n H (H.get b) off := by
  simp only [ldnO, cellsAt]
  cases H.get b <;> simp only [ldnC]
  · rename_i vs ty; cases seg vs off n <;> rfl
  · rename_i vs; cases seg vs off n <;> rfl
theorem ldnC_cells : ldnC n H (.cells vs ty) off = (seg vs off n).map fun ws => (.agg ws.toArray, H) := rfl
theorem seg_all (h : ¬ (vs.length < n ∨ n < vs.length)) : seg vs 0 n = some vs := by
  have h : vs.length = n := by omega
  unfold seg; rw [if_pos (by omega)]; simp [← h]
def stC (n : Nat) (H : AHeap) (b : Nat) (o : AObj) (off : Nat) (v : Value) : Option (Value × AHeap) := match o with
  | .cells vs _ => if isTup v = false ∧ (cellsL v).length = n ∧ off + n ≤ vs.length then some (.tuple #[], H.put b off (cellsL v)) else none
  | _ => none
theorem stO_at : stO n H (some (pt b off)) (some v) = stC n H b (H.get b) off v := by
  simp only [stO]
  cases h : H.get b <;> simp only [stC]
  · rename_i vs ty
    simp only [cellsL, AHeap.put, h]
theorem stC_cells (ht : isTup v = false) (hc : (cellsL v).length = n) (hl : off + n ≤ vs.length) : stC n H b (.cells vs ty) off v = some (.tuple #[], H.put b off (cellsL v)) := by
  simp only [stC]; rw [if_pos ⟨ht, hc, hl⟩]
/-- A store of one cell. -/
theorem stC_one (ht : isTup v = false) (hc : cellsL v = [v]) (hl : off < vs.length) : stC 1 H b (.cells vs ty) off v = some (.tuple #[], H.put b off [v]) := by
  simp only [stC]; rw [if_pos ⟨ht, by rw [hc]; rfl, hl⟩, hc]
theorem stC_int {k : IntKind} {i : Int} (hl : off < vs.length) : stC 1 H b (.cells vs ty) off (.int k i) = some (.tuple #[], H.put b off [.int k i]) := stC_one rfl rfl hl
theorem stC_bool {x : Bool} (hl : off < vs.length) : stC 1 H b (.cells vs ty) off (.bool x) = some (.tuple #[], H.put b off [.bool x]) := stC_one rfl rfl hl
theorem stC_s (hl : off < vs.length) : stC 1 H b (.cells vs ty) off s.v = some (.tuple #[], H.put b off [s.v]) := stC_one isTup_s cellsL_s hl
theorem stC_nil (hl : off < vs.length) : stC 1 H b (.cells vs ty) off (.slice none 0 0) = some (.tuple #[], H.put b off [.slice none 0 0]) := stC_one rfl rfl hl
theorem stC_pt {c q : Nat} (hl : off < vs.length) : stC 1 H b (.cells vs ty) off (pt c q) = some (.tuple #[], H.put b off [pt c q]) := stC_one rfl rfl hl
theorem stC_func {f : Fn} {x y : Array Value} (hl : off < vs.length) : stC 1 H b (.cells vs ty) off (.func f x y) = some (.tuple #[], H.put b off [.func f x y]) := stC_one rfl rfl hl
/-- A store of a whole struct. -/
theorem stC_agg (hc : ¬ (us.length < n ∨ n < us.length)) (hl : ¬ (vs.length < n ∨ n < vs.length)) : stC n H b (.cells vs ty) 0 (.agg us.toArray) = some (.tuple #[], H.put b 0 us) := by
  simp only [stC]; rw [if_pos ⟨rfl, by rw [cellsL_agg]; omega, by omega⟩, cellsL_agg]
theorem alloc_at (h : ¬ (b < H.n ∨ H.n < b)) : (H.alloc o).get b = o := by
  have : b = H.n := by omega
  rw [this, AHeap.alloc_self]
def putC (o : AObj) (off : Nat) (vs : List Value) : AObj := match o with
  | .cells us ty => .cells (splice us off vs) ty
  | o => o
theorem put_at : (H.put b off vs).get b = putC (H.get b) off vs := by
  cases h : H.get b with
  | cells us ty => rw [AHeap.put_self h]; rfl
  | _ => simp [AHeap.put, h, putC]
theorem putC_cells : putC (.cells us ty) off vs = .cells (splice us off vs) ty := rfl
theorem splice_all (h : ¬ (us.length < vs.length ∨ vs.length < us.length)) : splice us 0 vs = vs := by
  have h : us.length = vs.length := by omega
  simp [splice, h]
theorem splice_zero {u : Value} : splice (u :: us) 0 [v] = v :: us := by simp [splice]
theorem splice_succ {u : Value} {j : Nat} : splice (u :: us) (j + 1) vs = u :: splice us j vs := by
  unfold splice
  have : j + 1 + vs.length = (j + vs.length) + 1 := by omega
  simp [this]
theorem boxO_agg : boxO ty H (some (.agg vs.toArray)) = some (pt H.n 0, H.alloc (.cells vs ty)) := by simp [boxO, isTup, cellsL_agg]
theorem boxO_int {k : IntKind} {i : Int} : boxO ty H (some (.int k i)) = some (pt H.n 0, H.alloc (.cells [.int k i] ty)) := rfl
theorem boxO_s : boxO ty H (some s.v) = some (pt H.n 0, H.alloc (.cells [s.v] ty)) := by rw [boxO_v isTup_s, cellsL_s]

theorem SV.off_of_lt (h : s.lt n) (hc : n ≤ c) : s.off c := by
  cases s with
  | nil => trivial
  | «at» b o m => simp only [SV.lt] at h; simp only [SV.off]; omega
theorem SV.lt_of_not_off (h : s.lt n) (hb : ¬ s.off b) : b < n := by
  cases s with
  | nil => exact absurd trivial hb
  | «at» c o m =>
    simp only [SV.off, ne_eq, Decidable.not_not] at hb
    subst hb
    exact h
/-- Every block that there was reads as it did. -/
def Ext (H H' : AHeap) : Prop := H.n ≤ H'.n ∧ ∀ b, b < H.n → H'.get b = H.get b
theorem Ext.refl (H : AHeap) : Ext H H := ⟨Nat.le_refl _, fun _ _ => rfl⟩
theorem Ext.trans {H H' H'' : AHeap} (h : Ext H H') (k : Ext H' H'') : Ext H H'' := ⟨Nat.le_trans h.1 k.1, fun b hb => by rw [k.2 b (Nat.lt_of_lt_of_le hb h.1), h.2 b hb]⟩
theorem Ext.alloc (H : AHeap) (o : AObj) : Ext H (H.alloc o) := ⟨by simp, fun b hb => AHeap.alloc_ne H o (Nat.ne_of_lt hb)⟩
theorem Ext.allocs {H H' : AHeap} (h : Ext H H') (o : AObj) : Ext H (H'.alloc o) := h.trans (Ext.alloc H' o)
theorem Ext.put {H H' : AHeap} (h : Ext H H') (hb : H.n ≤ b) : Ext H (H'.put b off vs) := ⟨by rw [AHeap.put_n]; exact h.1, fun c hc => by rw [AHeap.put_ne (by omega), h.2 c hc]⟩
theorem Ext.sput {H H' : AHeap} (h : Ext H H') {j : Nat} (hb : ∀ b, b < H.n → s.off b) : Ext H (s.put H' j vs) := ⟨by rw [SV.put_n]; exact h.1, fun c hc => by rw [SV.put_ne (hb c hc), h.2 c hc]⟩
theorem Ext.kill {H H' : AHeap} (h : Ext H H') (hb : ∀ b, b < H.n → s.off b) : Ext H (H'.kill s) := ⟨by rw [AHeap.kill_n]; exact h.1, fun c hc => by rw [AHeap.kill_ne (hb c hc), h.2 c hc]⟩
theorem Arr.ext {H H' : AHeap} (h : Arr H s ty sz cs) (k : Ext H H') : Arr H' s ty sz cs := h.keep fun b hb => k.2 b (SV.lt_of_not_off h.lt hb)
theorem Own.ext {H H' : AHeap} (h : Own H s ty sz cs) (k : Ext H H') : Own H' s ty sz cs := h.keep fun b hb => k.2 b (SV.lt_of_not_off h.lt hb)
theorem Arr.alloc (h : Arr H s ty sz cs) : Arr (H.alloc o) s ty sz cs := h.ext (Ext.alloc H o)
theorem Own.alloc (h : Own H s ty sz cs) : Own (H.alloc o) s ty sz cs := h.ext (Ext.alloc H o)
theorem Arr.put (h : Arr H s ty sz cs) (hb : s.off b) : Arr (H.put b off vs) s ty sz cs := h.keep fun c hc => AHeap.put_ne (fun he => hc (he ▸ hb))
theorem Own.put' (h : Own H s ty sz cs) (hb : s.off b) : Own (H.put b off vs) s ty sz cs := h.keep fun c hc => AHeap.put_ne (fun he => hc (he ▸ hb))
/-- Two slices that share no block. -/
def SV.apart (s t : SV) : Prop := ∀ b, s.off b ∨ t.off b
theorem SV.apart_of {s t : SV} {n : Nat} (h : s.lt n) (k : ∀ b, b < n → t.off b) : s.apart t := fun b => by
  by_cases hb : b < n
  · exact .inr (k b hb)
  · exact .inl (SV.off_of_lt h (by omega))
theorem SV.apart.symm {s t : SV} (h : s.apart t) : t.apart s := fun b => (h b).symm
theorem Arr.sput (h : Arr H s ty sz cs) {j : Nat} (hb : t.apart s) : Arr (t.put H j vs) s ty sz cs := h.keep fun c hc => SV.put_ne ((hb c).resolve_right hc)
theorem Own.sput (h : Own H s ty sz cs) {j : Nat} (hb : t.apart s) : Own (t.put H j vs) s ty sz cs := h.keep fun c hc => SV.put_ne ((hb c).resolve_right hc)
theorem Arr.kill (h : Arr H s ty sz cs) (hb : t.apart s) : Arr (H.kill t) s ty sz cs := h.keep fun c hc => AHeap.kill_ne ((hb c).resolve_right hc)
theorem Own.kill (h : Own H s ty sz cs) (hb : t.apart s) : Own (H.kill t) s ty sz cs := h.keep fun c hc => AHeap.kill_ne ((hb c).resolve_right hc)

/-! ### An append of one element -/
/-- What 'append(s, x)' leaves: x's slice, and the new one; the old one is no more. -/
def AHeap.app1 (G : AHeap) (s : SV) (ty : TypeId) (cs ds : List Value) : AHeap := ((G.alloc (.cells ds ty)).kill s).alloc (.cells (cs ++ ds) ty)
theorem app1_n {G : AHeap} {ds : List Value} : (G.app1 s ty cs ds).n = G.n + 2 := by simp [AHeap.app1, AHeap.kill_n]
theorem appO_one {G : AHeap} {ds : List Value} {bytes : Nat} (h : Own G s ty sz cs) (hd : ds.length = sz) (hb : (s.len + 1) * bytes ≤ 2 ^ 46) (hb' : s.len + 1 ≤ 2 ^ 46) :
    appO ty sz bytes (some s.v) (some (SV.at G.n 0 1).v) (G.alloc (.cells ds ty)) = some ((SV.at (G.n + 1) 0 (s.len + 1)).v, G.app1 s ty cs ds) := by
  have k : Arr (G.alloc (.cells ds ty)) (.at G.n 0 1) ty sz ds := (Own.new (by omega)).arr
  exact (Own.alloc h).app k (Nat.lt_succ_self 0) hb hb'
theorem app1_own {G : AHeap} {ds : List Value} (h : Own G s ty sz cs) (hd : ds.length = sz) : Own (G.app1 s ty cs ds) (.at (G.n + 1) 0 (s.len + 1)) ty sz (cs ++ ds) := by
  have : ((G.alloc (.cells ds ty)).kill s).n = G.n + 1 := by rw [AHeap.kill_n]; rfl
  unfold AHeap.app1
  rw [← this]
  refine Own.new ?_
  rw [List.length_append, h.len, hd, Nat.add_mul, Nat.one_mul]
theorem app1_get {G : AHeap} {ds : List Value} (hb : b < G.n) (ho : s.off b) : (G.app1 s ty cs ds).get b = G.get b := by
  unfold AHeap.app1
  have : ((G.alloc (.cells ds ty)).kill s).n = G.n + 1 := by rw [AHeap.kill_n]; rfl
  rw [AHeap.alloc_ne _ _ (by omega), AHeap.kill_ne ho, AHeap.alloc_ne _ _ (by omega)]
theorem Ext.app1 {H G : AHeap} {ds : List Value} (h : Ext H G) (hb : ∀ b, b < H.n → s.off b) : Ext H (G.app1 s ty cs ds) := ((h.allocs _).kill hb).allocs _
theorem Own.app1 {G : AHeap} {ds us : List Value} {sz' : Nat} {ty' : TypeId} (h : Own G t ty' sz' us) (ha : s.apart t) : Own (G.app1 s ty cs ds) t ty' sz' us := (h.alloc.kill ha).alloc
theorem Arr.app1 {G : AHeap} {ds us : List Value} {sz' : Nat} {ty' : TypeId} (h : Arr G t ty' sz' us) (ha : s.apart t) : Arr (G.app1 s ty cs ds) t ty' sz' us := (h.alloc.kill ha).alloc
end Go.AB
