/- What the short names mean, trees that hold what is asked, and the reader of bytes. -/
import Derived.Test.YtihfaondfmeglaaZmc
set_option linter.unusedVariables false
set_option linter.unusedSimpArgs false
namespace Go.Zq
open Go

/-- What a tree's conditions and leaves are asked for. -/
def Pt.Sat {α : Type} (P : α → Prop) : Pt α → Prop
  | .leaf a => P a
  | .br b x y => (b = true → x.Sat P) ∧ (b = false → y.Sat P)
  | .ok b x => b = true ∧ x.Sat P
theorem Pt.sat_ok {α : Type} {P : α → Prop} : ∀ {t : Pt α}, t.Sat P → t.okv = true ∧ P t.val
  | .leaf a, h => ⟨rfl, h⟩
  | .br b x y, h => by
    cases b
    · exact Pt.sat_ok (t := y) (h.2 rfl)
    · exact Pt.sat_ok (t := x) (h.1 rfl)
  | .ok b x, h => by
    obtain ⟨h1, h2⟩ := Pt.sat_ok (t := x) h.2
    exact ⟨by simp only [Pt.okv, h.1, h1]; rfl, h2⟩
theorem sat_hid {α : Type} {P : α → Prop} {t : Pt α} (h : t.Sat P) : hid t.okv = true ∧ P (hid t.val) := by
  rw [hid_eq, hid_eq]; exact Pt.sat_ok h
@[simp] theorem sat_leaf {α : Type} {P : α → Prop} {a : α} : (Pt.leaf a).Sat P = P a := rfl
@[simp] theorem sat_br {α : Type} {P : α → Prop} {b : Bool} {x y : Pt α} : (Pt.br b x y).Sat P = ((b = true → x.Sat P) ∧ (b = false → y.Sat P)) := rfl
@[simp] theorem sat_ok' {α : Type} {P : α → Prop} {b : Bool} {x : Pt α} : (Pt.ok b x).Sat P = (b = true ∧ x.Sat P) := rfl
@[simp] theorem okv_leaf {α : Type} {a : α} : (Pt.leaf a).okv = true := rfl
@[simp] theorem okv_br {α : Type} {b : Bool} {x y : Pt α} : (Pt.br b x y).okv = bif b then x.okv else y.okv := rfl
@[simp] theorem okv_ok {α : Type} {b : Bool} {x : Pt α} : (Pt.ok b x).okv = (b && x.okv) := rfl
@[simp] theorem val_leaf {α : Type} {a : α} : (Pt.leaf a).val = a := rfl
@[simp] theorem val_br {α : Type} {b : Bool} {x y : Pt α} : (Pt.br b x y).val = bif b then x.val else y.val := rfl
@[simp] theorem val_ok {α : Type} {b : Bool} {x : Pt α} : (Pt.ok b x).val = x.val := rfl

@[simp] theorem eqN_iff {a b : Nat} : eqN a b = true ↔ a = b := by simp [eqN]
@[simp] theorem eqN_self {a : Nat} : eqN a a = true := by simp [eqN]
@[simp] theorem leN_iff {a b : Nat} : leN a b = true ↔ a ≤ b := by simp [leN]
@[simp] theorem beqN_iff {a b : Nat} : beqN a b = true ↔ a = b := by simp [beqN]
@[simp] theorem blt_iff {a b : Nat} : blt a b = true ↔ a < b := by simp [blt]
@[simp] theorem same_s {α : Type} (a : α) : same a a = true := same_self a
@[simp] theorem sameR_s (a : List Row) : sameR a a = true := sameR_self a
@[simp] theorem eqI_iff {a b : Int} : eqI a b = true ↔ a = b := by simp [eqI]
@[simp] theorem eqI_f {a b : Int} : eqI a b = false ↔ a ≠ b := by simp [eqI]
@[simp] theorem neI_iff {a b : Int} : neI a b = true ↔ a ≠ b := by simp [neI]
@[simp] theorem neI_f {a b : Int} : neI a b = false ↔ a = b := by simp [neI]
@[simp] theorem ltI_iff {a b : Int} : ltI a b = true ↔ a < b := by simp [ltI]
@[simp] theorem ltI_f {a b : Int} : ltI a b = false ↔ b ≤ a := by simp [ltI]
@[simp] theorem leI_iff {a b : Int} : leI a b = true ↔ a ≤ b := by simp [leI]
@[simp] theorem leI_f {a b : Int} : leI a b = false ↔ b < a := by simp [leI]
@[simp] theorem gtI_iff {a b : Int} : gtI a b = true ↔ b < a := by simp [gtI]
@[simp] theorem gtI_f {a b : Int} : gtI a b = false ↔ a ≤ b := by simp [gtI]
@[simp] theorem geI_iff {a b : Int} : geI a b = true ↔ b ≤ a := by simp [geI]
@[simp] theorem geI_f {a b : Int} : geI a b = false ↔ a < b := by simp [geI]
@[simp] theorem eqB_iff {a b : Bool} : eqB a b = true ↔ a = b := by simp [eqB]
@[simp] theorem lenI_eq {r : List Row} : lenI r = (r.length : Int) := rfl
@[simp] theorem natI_eq {n : Nat} : natI n = (n : Int) := rfl
@[simp] theorem mulN_eq {a b : Nat} : mulN a b = a * b := rfl
@[simp] theorem minN_eq {a b : Nat} : minN a b = min a b := rfl
@[simp] theorem mulP_eq {a b : Int} : mulP a b = a * b := rfl
theorem addI_eq {x y : Int} (h : -9223372036854775808 ≤ x + y ∧ x + y < 9223372036854775808) : addI x y = x + y := by
  unfold addI; rw [IntKind.wrap_i64]; omega
theorem subI_eq {x y : Int} (h : -9223372036854775808 ≤ x - y ∧ x - y < 9223372036854775808) : subI x y = x - y := by
  unfold subI; rw [IntKind.wrap_i64]; omega
theorem mulI_eq {x y : Int} (h : -9223372036854775808 ≤ x * y ∧ x * y < 9223372036854775808) : mulI x y = x * y := by
  unfold mulI; rw [IntKind.wrap_i64]; omega
theorem wrap_id {x : Int} (h : -9223372036854775808 ≤ x ∧ x < 9223372036854775808) : wrapK .i64 x = x := by
  unfold wrapK; rw [IntKind.wrap_i64]; omega
theorem rem_rng {x n : Int} (h0 : 0 ≤ x) (h1 : 0 < n) : 0 ≤ remI x n ∧ remI x n < n := by
  unfold remI
  rw [Int.tmod_eq_emod_of_nonneg h0]
  exact ⟨Int.emod_nonneg _ (by omega), Int.emod_lt_of_pos _ h1⟩

/-- A number's row out of lists of numbers. -/
def Num (r : List Row) : Prop := ∃ zs : List Int, r = ri zs
theorem ri_cons {z : Int} {zs : List Int} : ri (z :: zs) = rowI z :: ri zs := rfl
theorem ri_nil : ri [] = [] := rfl
theorem num_nil : Num [] := ⟨[], rfl⟩
theorem num_app {r s : List Row} (h : Num r) (k : Num s) : Num (r ++ s) := by
  obtain ⟨a, rfl⟩ := h
  obtain ⟨b, rfl⟩ := k
  exact ⟨a ++ b, ri_append.symm⟩
theorem num_one (x : Int) : Num [rowI x] := ⟨[x], rfl⟩
theorem num_in {r : List Row} (h : Num r) {j : Int} (h0 : 0 ≤ j) (h1 : j < (r.length : Int)) : inRow [.int .i64] r j = true := by
  obtain ⟨a, rfl⟩ := h
  rw [ri_len] at h1
  have hj : j.toNat < a.length := by omega
  have := ri_in (xs := a) (j := j.toNat) (d := a[j.toNat]) (List.getElem?_eq_getElem hj)
  rwa [Int.toNat_of_nonneg h0] at this
theorem num_has {r : List Row} (h : Num r) {j : Nat} (h1 : j < r.length) : hasRow [.int .i64] r j 0 = true := by
  obtain ⟨a, rfl⟩ := h
  rw [ri_len] at h1
  exact ri_has (d := a[j]) (List.getElem?_eq_getElem h1)

/-- How far a reader may have come. -/
structure CurOk (B : Int) (code : List Row) (p : Int) : Prop where
  code : bytesOk code = true
  lo : 0 ≤ p
  hi : p ≤ B
theorem CurOk.mono {B C : Int} {code : List Row} {p : Int} (h : CurOk B code p) (hB : B ≤ C) : CurOk C code p := ⟨h.1, h.2, by have := h.3; omega⟩

/-! Loops: each round is nearer to the end. -/
theorem loop_sat {V : Type} {N : V → Pt (Option V)} (Inv : Nat → V → Prop) (Post : V → Prop) (h : ∀ n v, Inv n v → (N v).Sat fun r => match r with | none => Post v | some v' => ∃ m, m < n ∧ Inv m v') :
    ∀ (k n : Nat) (v : V), Inv n v → n < k → ∃ w, loopV N k v = some w ∧ Post w
  | 0, n, v, hi, hk => by omega
  | k + 1, n, v, hi, hk => by
    obtain ⟨h1, h2⟩ := Pt.sat_ok (h n v hi)
    unfold loopV
    rw [h1, cond_true]
    cases hv : (N v).val with
    | none => rw [hv] at h2; exact ⟨v, rfl, h2⟩
    | some v' =>
      rw [hv] at h2
      obtain ⟨m, hm, hi'⟩ := h2
      exact loop_sat Inv Post h k m v' hi' (by omega)

theorem loop_w {V : Type} {N : V → Pt (Option V)} {Post : V → Prop} {k : Nat} {v : V} (h : ∃ w, loopV N k v = some w ∧ Post w) : (hid (loopV N k v)).isSome = true ∧ Post ((hid (loopV N k v)).getD v) := by
  obtain ⟨w, hw, hp⟩ := h
  rw [hid_eq, hw]
  exact ⟨rfl, hp⟩

/-- From a to b. -/
def inB (x a b : Int) : Bool := decide (a ≤ x) && decide (x ≤ b)
@[simp] theorem inB_iff {x a b : Int} : inB x a b = true ↔ a ≤ x ∧ x ≤ b := by simp [inB]
def bytesB (zs : List Int) : Bool := zs.all fun z => inB z 0 255
theorem ri_int {zs : List Int} {i : Nat} (h : i < zs.length) : intAt (ri zs) i 0 = zs[i] := ri_at (List.getElem?_eq_getElem h)
theorem and255 {v : Int} (h : 0 ≤ v) (h1 : v < 9223372036854775808) : andI v 255 = v % 256 := by
  have := mask_at v 8 (by omega)
  exact this
theorem andMask {v : Int} (k : Nat) (m : Int) (hk : k < 63) (hm : m = 2 ^ k - 1) : andI v m = v % 2 ^ k := by
  subst hm
  exact mask_at v k hk
theorem shr_div {v n : Int} (k : Nat) (hn : n = (k : Int)) (hk : k ≤ 64) : shrI v n = v / 2 ^ k := by
  subst hn
  unfold shrI
  rw [Int.toNat_natCast, Nat.min_eq_left hk, Int.fdiv_eq_ediv_of_nonneg _ (Int.le_of_lt (Int.pow_pos (by omega)))]
theorem shl8 {v : Int} (h : 0 ≤ v) (h1 : v < 65536) : shlI v 8 = v * 256 := by
  unfold shlI
  rw [show ((2 : Int) ^ min (Int.toNat 8) 64) = 256 from by decide, IntKind.wrap_i64]
  omega
theorem or_add {q r : Int} (hq : 0 ≤ q) (hq1 : q < 65536) (hr : 0 ≤ r) (hr1 : r < 256) : orI (q * 256) r = q * 256 + r := by
  obtain ⟨a, rfl⟩ := Int.eq_ofNat_of_zero_le hq
  obtain ⟨b, rfl⟩ := Int.eq_ofNat_of_zero_le hr
  unfold orI
  rw [BitVec.toNat_or, BitVec.toNat_ofInt, BitVec.toNat_ofInt]
  have e1 : (((a : Int) * 256) % ((2 ^ 64 : Nat) : Int)).toNat = 2 ^ 8 * a := by omega
  have e2 : ((b : Int) % ((2 ^ 64 : Nat) : Int)).toNat = b := by omega
  rw [e1, e2, ← Nat.two_pow_add_eq_or_of_lt (by omega), IntKind.wrap_i64]
  omega
theorem or0 {r : Int} (hr : 0 ≤ r) (hr1 : r < 256) : orI 0 r = r := by
  have := or_add (q := 0) (r := r) (by omega) (by omega) hr hr1
  simpa using this
theorem rem2 {v : Int} (h : 0 ≤ v) : remI v 2 = v % 2 := by
  unfold remI
  exact Int.tmod_eq_emod_of_nonneg h
theorem and1 {v : Int} : andI v 1 = v % 2 := by
  have := mask_at v 1 (by omega)
  simpa [andI] using this
theorem ri_set {zs : List Int} {i : Nat} {z : Int} : (ri zs).set i (rowI z) = ri (zs.set i z) := by
  simp only [ri, List.map_set]
  rfl
theorem ri_rlen {zs : List Int} {i : Nat} (h : i < zs.length) : rlen (ri zs) i = 1 := by
  unfold rlen
  rw [ri_get (List.getElem?_eq_getElem h)]
  rfl
theorem ri_inr {zs : List Int} {i : Nat} (h : i < zs.length) : inRow [.int .i64] (ri zs) (i : Int) = true := ri_in (d := zs[i]) (List.getElem?_eq_getElem h)
end Go.Zq
