/- Draws out of bytes: what the next byte is, told once. -/
import Derived.Test.YtilfpkfifdhhdaaZqSym4
set_option linter.unusedVariables false
set_option linter.unusedSimpArgs false
namespace Go.Zq
open Go

/-- A row of one byte. -/
def byteRow : Row → Bool
  | [.lit (.int .u8 z)] => decide (0 ≤ z) && decide (z < 256)
  | _ => false
def bytesOk (rows : List Row) : Bool := rows.all byteRow
/-- A place from which one may go v further. -/
def okTo (v p : Int) : Bool := decide (0 ≤ p) && decide (p + v < 4611686018427387904)
/-- Bounds of how far one went. -/
abbrev bd (e u : Int) : Prop := 0 ≤ e ∧ e ≤ u
theorem bd_add {a b u v w : Int} (ha : bd a u) (hb : bd b v) (h : u + v ≤ w) : bd (a + b) w := ⟨by have := ha.1; have := hb.1; omega, by have := ha.2; have := hb.2; omega⟩
theorem bd_cond {c : Bool} {a b u v w : Int} (ha : bd a u) (hb : bd b v) (h : u ≤ w) (k : v ≤ w) : bd (bif c then a else b) w := by
  cases c
  · exact ⟨hb.1, Int.le_trans hb.2 k⟩
  · exact ⟨ha.1, Int.le_trans ha.2 h⟩
theorem okTo_iff {v p : Int} : okTo v p = true ↔ 0 ≤ p ∧ p + v < 4611686018427387904 := by simp [okTo]
theorem okTo_add {v u w e a : Int} (h : okTo w e = true) (ha : bd a u) (hw : u + v ≤ w) : okTo v (e + a) = true := by
  rw [okTo_iff] at *
  have := ha.1; have := ha.2
  omega
theorem okTo_bd {v u e : Int} (h : bd e u) (hw : u + v < 4611686018427387904) : okTo v e = true := by
  rw [okTo_iff]
  have := h.1; have := h.2
  omega
theorem okTo_le {v w e : Int} (h : okTo w e = true) (hw : v ≤ w) : okTo v e = true := by
  rw [okTo_iff] at *
  omega
theorem bif_p1 (p : Int) {c : Bool} {a b : Int} : (bif c then p + a else p + b) = p + bif c then a else b := by cases c <;> rfl
theorem bif_p2 (p : Int) {c : Bool} {a : Int} : (bif c then p + a else p) = p + bif c then a else 0 := by cases c <;> simp
theorem bif_p3 (p : Int) {c : Bool} {b : Int} : (bif c then p else p + b) = p + bif c then 0 else b := by cases c <;> simp
/-- Rows of one number. -/
def ri (zs : List Int) : List Row := zs.map fun z => [.lit (.int .i64 z)]
theorem ri_len {zs : List Int} : (ri zs).length = zs.length := by simp [ri]

theorem byteRow_eq {r : Row} (h : byteRow r = true) : ∃ z : Int, r = [.lit (.int .u8 z)] ∧ 0 ≤ z ∧ z < 256 := by
  unfold byteRow at h
  split at h
  · rename_i z
    simp only [Bool.and_eq_true, decide_eq_true_eq] at h
    exact ⟨z, rfl, h⟩
  · simp at h

theorem row_at {rows : List Row} (h : bytesOk rows = true) {j : Nat} (hj : j < rows.length) : ∃ z : Int, rows.getD j [] = [.lit (.int .u8 z)] ∧ intAt rows j 0 = z ∧ 0 ≤ z ∧ z < 256 := by
  have hr : rows.getD j [] = rows[j] := by simp [List.getD_eq_getElem?_getD, hj]
  obtain ⟨z, hz, h0, h1⟩ := byteRow_eq (List.all_eq_true.1 h rows[j] (List.getElem_mem hj))
  refine ⟨z, by rw [hr, hz], ?_, h0, h1⟩
  simp only [intAt, cellAt, hr, hz]
  rfl
theorem inRow_byte {rows : List Row} (h : bytesOk rows = true) {p : Int} (h0 : 0 ≤ p) (h1 : p < (rows.length : Int)) : inRow [.int .u8] rows p = true := by
  have hj : p.toNat < rows.length := by omega
  obtain ⟨z, hz, -⟩ := row_at h hj
  have hb : Nat.blt p.toNat rows.length = true := by simpa using hj
  simp only [inRow, hasRow, hz, h0, hb, decide_true, Bool.true_and]
  rfl

/-- How the seed goes on. -/
def seedOf (s v : Int) : Int := IntKind.wrap IntKind.u64 (IntKind.wrap IntKind.u64 (IntKind.wrap IntKind.u64 (s * (6364136223846793005 : Int)) + IntKind.wrap IntKind.u64 v) + (1442695040888963407 : Int))
def farOf (s : Int) : Int := IntKind.wrap IntKind.i64 (IntKind.wrap IntKind.u64 ↑(BitVec.toNat (BitVec.ofInt (64 : Nat) (Int.fdiv s (1099511627776 : Int)) &&& BitVec.ofInt (64 : Nat) (255 : Int))))
def nextV (rows : List Row) (p s : Int) : Int := bif decide (p < (rows.length : Int)) then intAt rows p.toNat 0 else farOf (seedOf s 0)
def nextS (rows : List Row) (p s : Int) : Int := seedOf s (bif decide (p < (rows.length : Int)) then intAt rows p.toNat 0 else 0)

theorem far_rng (s : Int) : 0 ≤ farOf s ∧ farOf s < 256 := by
  unfold farOf
  have h : (BitVec.ofInt 64 (s.fdiv 1099511627776) &&& BitVec.ofInt 64 255).toNat ≤ 255 := by
    rw [BitVec.toNat_and]
    exact Nat.le_trans Nat.and_le_right (by decide)
  generalize (BitVec.ofInt 64 (s.fdiv 1099511627776) &&& BitVec.ofInt 64 255).toNat = n at h
  have h1 : IntKind.u64.wrap (n : Int) = n := by
    have : IntKind.u64.wrap (n : Int) = (n : Int) % 18446744073709551616 := by simp [IntKind.wrap, IntKind.bits, IntKind.signed]
    omega
  rw [h1, IntKind.wrap_i64]
  omega
theorem nextV_rng {rows : List Row} (h : bytesOk rows = true) {p : Int} (h0 : 0 ≤ p) (s : Int) : 0 ≤ nextV rows p s ∧ nextV rows p s < 256 := by
  unfold nextV
  by_cases hc : p < (rows.length : Int)
  · simp only [hc, decide_true, cond_true]
    obtain ⟨z, -, hz, h0, h1⟩ := row_at h (show p.toNat < rows.length by omega)
    rw [hz]
    exact ⟨h0, h1⟩
  · simp only [hc, decide_false, cond_false]
    exact far_rng _

theorem next_raw {rows : List Row} {p s : Int} {r : SV × List Blk} (h : some (((SV.one (T.lit (Value.int IntKind.i64 (nextV rows p s))), [Blk.box [T.imm true 1 rows, T.lit (Value.int IntKind.i64 (p + 1)), T.lit (Value.int IntKind.u64 (nextS rows p s))]]), okTo 0 p && bytesOk rows) : (SV × List Blk) × Bool) = some (r, true)) :
    some (((SV.one (T.lit (Value.int IntKind.i64 (bif decide (IntKind.wrap IntKind.i64 (p + (1 : Int)) ≤ ↑(List.length rows)) then bif decide (p < ↑(List.length rows)) then IntKind.wrap IntKind.i64 (intAt rows (Int.toNat p) (0 : Nat)) else (0 : Int) else farOf (seedOf s (bif decide (p < ↑(List.length rows)) then IntKind.wrap IntKind.i64 (intAt rows (Int.toNat p) (0 : Nat)) else (0 : Int)))))),
      [Blk.box [T.imm true (1 : Nat) (bif decide (IntKind.wrap IntKind.i64 (p + (1 : Int)) ≤ ↑(List.length rows)) then rows else rows), T.lit (Value.int IntKind.i64 (bif decide (IntKind.wrap IntKind.i64 (p + (1 : Int)) ≤ ↑(List.length rows)) then IntKind.wrap IntKind.i64 (p + (1 : Int)) else IntKind.wrap IntKind.i64 (p + (1 : Int)))),
        T.lit (Value.int IntKind.u64 (bif decide (IntKind.wrap IntKind.i64 (p + (1 : Int)) ≤ ↑(List.length rows)) then seedOf s (bif decide (p < ↑(List.length rows)) then IntKind.wrap IntKind.i64 (intAt rows (Int.toNat p) (0 : Nat)) else (0 : Int)) else seedOf s (bif decide (p < ↑(List.length rows)) then IntKind.wrap IntKind.i64 (intAt rows (Int.toNat p) (0 : Nat)) else (0 : Int))))]]),
      (inRow [Kd.int IntKind.u8] rows p && true || !decide (p < ↑(List.length rows))) && true && true && true) : (SV × List Blk) × Bool) = some (r, true) := by
  rw [← h]
  have hok : (okTo 0 p && bytesOk rows) = true := by
    have := congrArg (Option.map (·.2)) h
    simpa using this
  simp only [Bool.and_eq_true, okTo_iff] at hok
  obtain ⟨⟨h0, h1⟩, hb⟩ := hok
  rw [Int.add_zero] at h1
  have hw : IntKind.wrap IntKind.i64 (p + 1) = p + 1 := by rw [IntKind.wrap_i64]; omega
  have hl : (p + 1 ≤ (rows.length : Int)) ↔ p < (rows.length : Int) := by omega
  simp only [hw, Bool.cond_self, decide_eq_decide.2 hl, nextV, nextS]
  by_cases hc : p < (rows.length : Int)
  · obtain ⟨z, -, hz, hz0, hz1⟩ := row_at hb (show p.toNat < rows.length by omega)
    have hwz : IntKind.wrap IntKind.i64 z = z := by rw [IntKind.wrap_i64]; omega
    simp [hc, hz, hwz, inRow_byte hb h0 hc, okTo, h0, h1, hb]
  · simp [hc, okTo, h0, h1, hb]

/-- A list of at least two numbers. -/
def numRow : Row → Bool
  | [.lit (.int .i64 _)] => true
  | _ => false
def listOk (rows : List Row) : Bool := decide (2 ≤ rows.length) && rows.all numRow
theorem inRow_list {rows : List Row} (h : listOk rows = true) {j : Int} (h0 : 0 ≤ j) (h1 : j < (rows.length : Int)) : inRow [.int .i64] rows j = true := by
  simp only [listOk, Bool.and_eq_true, decide_eq_true_eq] at h
  have hj : j.toNat < rows.length := by omega
  have hr : rows.getD j.toNat [] = rows[j.toNat] := by simp [List.getD_eq_getElem?_getD, hj]
  have hn := List.all_eq_true.1 h.2 rows[j.toNat] (List.getElem_mem hj)
  rw [← hr] at hn
  have hb : Nat.blt j.toNat rows.length = true := by simpa using hj
  simp only [inRow, hasRow, h0, hb, decide_true, Bool.true_and]
  generalize rows.getD j.toNat [] = r at hn
  unfold numRow at hn
  split at hn
  · rfl
  · simp at hn
theorem u64_dec {z : Int} : decide (0 ≤ IntKind.wrap IntKind.u64 z) = true := by
  have : IntKind.u64.wrap z = z % 18446744073709551616 := by simp [IntKind.wrap, IntKind.bits, IntKind.signed]
  rw [this, decide_eq_true_eq]
  omega
theorem len_cond {b : Bool} {x y : List Row} : (bif b then x else y).length = bif b then x.length else y.length := by cases b <;> rfl
theorem take_cond {b : Bool} {n : Nat} {x y : List Row} : (bif b then x else y).take n = bif b then x.take n else y.take n := by cases b <;> rfl
theorem take_all {n : Nat} {l : List Row} (h : l.length = n) : l.take n = l := by subst h; exact List.take_length
theorem some_fst {α β : Type} {a b : α} {x y : β} (h : some (a, x) = some (b, y)) : a = b := (Prod.mk.inj (Option.some.inj h)).1
theorem some_snd {α β : Type} {a b : α} {x y : β} (h : some (a, x) = some (b, y)) : x = y := (Prod.mk.inj (Option.some.inj h)).2
theorem res_eq {α : Type} {x : Option (α × Bool)} {p q : α} {ok : Bool} (h : x = some (p, ok)) (e : p = q) : x = some (q, ok) := by rw [h, e]
theorem bif_tf {b : Bool} : (bif b then true else false) = b := by cases b <;> rfl
theorem bif_ft {b : Bool} : (bif b then false else true) = !b := by cases b <;> rfl
theorem okTrans {α : Type} {x : Option (α × Bool)} {p r : α} {ok ok' : Bool} (e : x = some (p, ok)) (k : ok' = true → ok = true) (h : some (p, ok') = some (r, true)) : x = some (r, true) := by
  simp only [Option.some.injEq, Prod.mk.injEq] at h
  obtain ⟨rfl, h⟩ := h
  rw [e, k h]
end Go.Zq
