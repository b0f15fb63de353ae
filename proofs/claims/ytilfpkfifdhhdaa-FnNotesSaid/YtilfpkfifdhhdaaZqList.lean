/- Lists of numbers. -/
import Derived.Test.YtilfpkfifdhhdaaZqCur
set_option linter.unusedVariables false
set_option linter.unusedSimpArgs false
namespace Go.Zq
open Go

theorem ri_append {xs ys : List Int} : ri (xs ++ ys) = ri xs ++ ri ys := by simp [ri]
theorem ri_get {xs : List Int} {j : Nat} {d : Int} (h : xs[j]? = some d) : (ri xs).getD j [] = [.lit (.int .i64 d)] := by
  simp [ri, List.getD_eq_getElem?_getD, h]
theorem ri_at {xs : List Int} {j : Nat} {d : Int} (h : xs[j]? = some d) : intAt (ri xs) j 0 = d := by
  simp only [intAt, cellAt, ri_get h]
  rfl
theorem ri_has {xs : List Int} {j : Nat} {d : Int} (h : xs[j]? = some d) : hasRow [.int .i64] (ri xs) j 0 = true := by
  have hj : j < xs.length := (List.getElem?_eq_some_iff.1 h).1
  simp only [hasRow, ri_get h, ri_len]
  have : Nat.blt j xs.length = true := by simpa using hj
  rw [this]
  rfl
theorem ri_in {xs : List Int} {j : Nat} {d : Int} (h : xs[j]? = some d) : inRow [.int .i64] (ri xs) (j : Int) = true := by
  have h1 := ri_has h
  simp only [inRow, Int.toNat_natCast, h1, ri_get h]
  simp
theorem get_mid {pre r : List Int} {d : Int} : (pre ++ d :: r)[pre.length]? = some d := by simp
theorem ri_inj {xs ys : List Int} : ri xs = ri ys ↔ xs = ys := by
  constructor
  · intro h
    induction xs generalizing ys with
    | nil => cases ys <;> simp_all [ri]
    | cons x r ih =>
      cases ys with
      | nil => simp [ri] at h
      | cons y s =>
        simp only [ri, List.map_cons, List.cons.injEq, T.lit.injEq, Value.int.injEq, and_true, true_and] at h
        rw [h.1, ih (ys := s) h.2]
  · rintro rfl; rfl
theorem pow_at {n : Nat} (h : n ≤ 64) : (2 : Int) ^ min (Int.toNat (n : Int)) 64 = 2 ^ n := by
  rw [Int.toNat_natCast, Nat.min_eq_left h]
/-- The last bit of a part. -/
theorem bit_at (v P : Int) (hP : 0 ≤ P) : IntKind.wrap IntKind.i64 (↑(BitVec.toNat (BitVec.ofInt (64 : Nat) (Int.fdiv v P) &&& BitVec.ofInt (64 : Nat) (1 : Int))) : Int) = (v / P) % 2 := by
  rw [BitVec.toNat_and, BitVec.toNat_ofInt, BitVec.toNat_ofInt, Int.fdiv_eq_ediv_of_nonneg _ hP]
  have h : ((1 : Int) % ((2 ^ 64 : Nat) : Int)).toNat = 2 ^ 1 - 1 := by decide
  rw [h, Nat.and_two_pow_sub_one_eq_mod, IntKind.wrap_i64]
  omega
theorem mask_at (z : Int) (k : Nat) (hk : k < 63) : IntKind.wrap IntKind.i64 (↑(BitVec.toNat (BitVec.ofInt (64 : Nat) z &&& BitVec.ofInt (64 : Nat) ((2 : Int) ^ k - 1))) : Int) = z % 2 ^ k := by
  have hpos : (1 : Nat) ≤ 2 ^ k := Nat.one_le_two_pow
  have hle : (2 : Nat) ^ k ≤ 2 ^ 62 := Nat.pow_le_pow_right (by decide) (by omega)
  have e : (((2 : Int) ^ k - 1) % ((2 ^ 64 : Nat) : Int)).toNat = 2 ^ k - 1 := by
    have : ((2 : Int) ^ k) = ((2 ^ k : Nat) : Int) := by simp
    rw [this]
    omega
  rw [BitVec.toNat_and, BitVec.toNat_ofInt, BitVec.toNat_ofInt, e, Nat.and_two_pow_sub_one_eq_mod, IntKind.wrap_i64]
  have h2 : ((2 : Int) ^ k) = ((2 ^ k : Nat) : Int) := by simp
  rw [h2]
  have h3 : (((z % ((2 ^ 64 : Nat) : Int)).toNat % 2 ^ k : Nat) : Int) = z % ((2 ^ k : Nat) : Int) := by
    rw [Int.natCast_emod, Int.toNat_of_nonneg (by omega)]
    refine Int.emod_emod_of_dvd _ ?_
    exact Int.natCast_dvd_natCast.2 (Nat.pow_dvd_pow 2 (by omega))
  rw [h3]
  have h4 : 0 ≤ z % ((2 ^ k : Nat) : Int) ∧ z % ((2 ^ k : Nat) : Int) < ((2 ^ k : Nat) : Int) := ⟨Int.emod_nonneg _ (by omega), Int.emod_lt_of_pos _ (by omega)⟩
  omega
end Go.Zq
