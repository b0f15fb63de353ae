/- Decimal bytes: the plain law. -/
import Derived.Test.YtckjibiolfapiaaZqBcdQ
namespace Go.Proofs.YtckjibiolfapiaaBcd
open Go Go.Zq
set_option maxHeartbeats 4000000

theorem and15 (v : Int) : ((BitVec.ofInt 64 v &&& BitVec.ofInt 64 15).toNat : Int) = v % 16 := by
  rw [BitVec.toNat_and, BitVec.toNat_ofInt, BitVec.toNat_ofInt]
  have h : ((15 : Int) % ((2 ^ 64 : Nat) : Int)).toNat = 2 ^ 4 - 1 := by decide
  rw [h, Nat.and_two_pow_sub_one_eq_mod]
  omega
theorem low15 (v : Int) : IntKind.wrap IntKind.i64 ↑(BitVec.toNat (BitVec.ofInt (IntKind.bits IntKind.i64) v &&& BitVec.ofInt (IntKind.bits IntKind.i64) (15 : Int))) = v % 16 := by
  have h : IntKind.bits IntKind.i64 = 64 := rfl
  rw [h, and15, IntKind.wrap_i64]
  omega
theorem fd16 (v : Int) : v.fdiv 16 = v / 16 := Int.fdiv_eq_ediv_of_nonneg _ (by decide)

theorem L142 (v a b : Int) : g142_0 v a b = true ↔ a ≤ v ∧ v ≤ b := by
  simp [g142_0]
theorem L24 (v : Int) : g24_0 v = true ↔ 0 ≤ v ∧ v ≤ 153 ∧ v % 16 ≤ 9 := by
  unfold g24_0
  rw [low15]
  cases h : g142_0 v 0 153
  · simp only [cond_false, Bool.false_eq_true, false_iff]
    intro k
    have := (L142 v 0 153).2 ⟨k.1, k.2.1⟩
    simp [h] at this
  · simp only [cond_true, decide_eq_true_eq]
    have := (L142 v 0 153).1 h
    omega
theorem L146 (v : Int) : g146_0 v = g24_0 v := by
  rw [Bool.eq_iff_iff, L24]
  unfold g146_0
  rw [low15]
  have h16 : (2 : Int) ^ min (Int.toNat 4) (IntKind.bits IntKind.i64) = 16 := by decide
  rw [h16, fd16]
  simp only [g144_0, Bool.cond_false_right, Bool.and_eq_true, decide_eq_true_eq]
  omega
theorem L137 (v : Int) (h0 : 0 ≤ v) (h1 : v ≤ 255) : g137_0 v = v / 16 * 10 + v % 16 := by
  unfold g137_0
  rw [and15, fd16]
  simp only [IntKind.wrap_i64]
  omega
theorem tab143 : ∀ n : Fin 100, g143_0 (n.val : Int) = ((n.val / 10 * 16 + n.val % 10 : Nat) : Int) := by decide +kernel
theorem L143 (n : Int) (h0 : 0 ≤ n) (h1 : n ≤ 99) : g143_0 n = n / 10 * 16 + n % 10 := by
  have := tab143 ⟨n.toNat, by omega⟩
  simp only at this
  rw [show ((n.toNat : Nat) : Int) = n by omega] at this
  rw [this]
  omega
theorem L135 (x a b : Int) : g135_0 x a b = (g24_0 a && g24_0 b && g142_0 x 0 1) := by
  unfold g135_0 g150_0
  cases g24_0 a <;> cases g24_0 b <;> rfl
theorem L138 (x a b : Int) : g138_0 x a b = g135_0 x a b := by
  rw [L135]
  unfold g138_0
  rw [L146, L146]
  have : g144_0 x 0 1 = g142_0 x 0 1 := rfl
  rw [this]
  cases g24_0 a <;> cases g24_0 b <;> cases g142_0 x 0 1 <;> rfl

/-- A byte of two digits: its number, and the byte again. -/
theorem num_of (a : Int) (h : g24_0 a = true) : ∃ A : Int, g137_0 a = A ∧ 0 ≤ A ∧ A ≤ 99 ∧ a = A / 10 * 16 + A % 10 ∧ 0 ≤ a ∧ a ≤ 153 := by
  rw [L24] at h
  refine ⟨_, L137 a h.1 (by omega), ?_⟩
  omega
theorem byte_of (n : Int) (h0 : 0 ≤ n) (h1 : n ≤ 99) : g24_0 (g143_0 n) = true ∧ g137_0 (g143_0 n) = n := by
  rw [L143 n h0 h1, L24, L137 _ (by omega) (by omega)]
  omega

theorem L136 (S : Int) (h0 : -100 ≤ S) (h1 : S ≤ 199) : ∃ c r : Int, g136_1 S = c ∧ g136_0 S = g143_0 r ∧ 0 ≤ r ∧ r ≤ 99 ∧ ((S < 0 ∧ c = 1 ∧ r = S + 100) ∨ (0 ≤ S ∧ S ≤ 99 ∧ c = 0 ∧ r = S) ∨ (100 ≤ S ∧ c = 1 ∧ r = S - 100)) := by
  unfold g136_1 g136_0
  by_cases h : 0 ≤ S ∧ S ≤ 99
  · rw [(L142 S 0 99).2 h]
    exact ⟨0, S, rfl, rfl, by omega⟩
  · have e : g142_0 S 0 99 = false := by
      rw [Bool.eq_false_iff]
      intro k
      exact h ((L142 S 0 99).1 k)
    rw [e]
    simp only [cond_false]
    have hw : IntKind.wrap IntKind.i64 (S + 100) = S + 100 := by rw [IntKind.wrap_i64]; omega
    rw [hw, Int.tmod_eq_emod_of_nonneg (by omega)]
    exact ⟨1, _, rfl, rfl, by omega⟩

theorem add_law (x a b : Int) (h : g135_0 x a b = true) : ∃ A B c r : Int, g137_0 a = A ∧ g137_0 b = B ∧ 0 ≤ x ∧ x ≤ 1 ∧ 0 ≤ A ∧ A ≤ 99 ∧ 0 ≤ B ∧ B ≤ 99 ∧ a = A / 10 * 16 + A % 10 ∧
    g16_0 x a b = g143_0 r ∧ g16_1 x a b = c ∧ g139_0 x a b = g143_0 r ∧ g139_1 x a b = c ∧ 0 ≤ r ∧ r ≤ 99 ∧ A + B + x = r + 100 * c ∧ 0 ≤ c ∧ c ≤ 1 := by
  have h' := h
  rw [L135] at h
  simp only [Bool.and_eq_true] at h
  obtain ⟨⟨ha, hb⟩, hx⟩ := h
  rw [L142] at hx
  obtain ⟨A, hA, hA0, hA1, haA, -⟩ := num_of a ha
  obtain ⟨B, hB, hB0, hB1, -⟩ := num_of b hb
  have hS : IntKind.wrap IntKind.i64 (IntKind.wrap IntKind.i64 (g137_0 a + g137_0 b) + x) = A + B + x := by
    rw [hA, hB]
    simp only [IntKind.wrap_i64]
    omega
  obtain ⟨c, r, h1, h2, h3, h4, h5⟩ := L136 (A + B + x) (by omega) (by omega)
  have hr : (A + B + x).tmod 100 = r := by rw [Int.tmod_eq_emod_of_nonneg (by omega)]; omega
  have hc : IntKind.wrap IntKind.i64 ((A + B + x).tdiv 100) = c := by rw [Int.tdiv_eq_ediv_of_nonneg (by omega), IntKind.wrap_i64]; omega
  refine ⟨A, B, c, r, hA, hB, hx.1, hx.2, hA0, hA1, hB0, hB1, haA, ?_, ?_, ?_, ?_, h3, h4, by omega, by omega, by omega⟩
  · simp only [g16_0, h', Bool.not_true, cond_false, hS, h2]
  · simp only [g16_1, h', Bool.not_true, cond_false, hS, h1]
  · show g145_0 (Int.tmod (IntKind.wrap IntKind.i64 (IntKind.wrap IntKind.i64 (g137_0 a + g137_0 b) + x)) 100) = _
    rw [hS, hr]
    rfl
  · show IntKind.wrap IntKind.i64 (Int.tdiv (IntKind.wrap IntKind.i64 (IntKind.wrap IntKind.i64 (g137_0 a + g137_0 b) + x)) 100) = _
    rw [hS, hc]

theorem sub_law (x a b A B : Int) (h : g135_0 x a b = true) (hA : g137_0 a = A) (hB : g137_0 b = B) (h1 : 0 ≤ A) (h2 : A ≤ 99) (h3 : 0 ≤ B) (h4 : B ≤ 99) (h5 : 0 ≤ x) (h6 : x ≤ 1) : ∃ d m : Int,
    g18_0 x a b = g143_0 m ∧ g18_1 x a b = d ∧ g140_0 x a b = g143_0 m ∧ g140_1 x a b = d ∧ 0 ≤ m ∧ m ≤ 99 ∧ A - B - x = m - 100 * d ∧ 0 ≤ d ∧ d ≤ 1 := by
  have hD : IntKind.wrap IntKind.i64 (IntKind.wrap IntKind.i64 (g137_0 a - g137_0 b) - x) = A - B - x := by
    rw [hA, hB]
    simp only [IntKind.wrap_i64]
    omega
  obtain ⟨c, r, k1, k2, k3, k4, k5⟩ := L136 (A - B - x) (by omega) (by omega)
  refine ⟨c, r, ?_, ?_, ?_, ?_, k3, k4, by omega, by omega, by omega⟩
  · simp only [g18_0, h, Bool.not_true, cond_false, hD, k2]
  · simp only [g18_1, h, Bool.not_true, cond_false, hD, k1]
  · show (bif decide (IntKind.wrap IntKind.i64 (IntKind.wrap IntKind.i64 (g137_0 a - g137_0 b) - x) < 0) then g143_0 (IntKind.wrap IntKind.i64 (IntKind.wrap IntKind.i64 (IntKind.wrap IntKind.i64 (g137_0 a - g137_0 b) - x) + 100)) else g143_0 (IntKind.wrap IntKind.i64 (IntKind.wrap IntKind.i64 (g137_0 a - g137_0 b) - x))) = _
    rw [hD]
    have hw : IntKind.wrap IntKind.i64 (A - B - x + 100) = A - B - x + 100 := by rw [IntKind.wrap_i64]; omega
    rw [hw]
    by_cases hn : A - B - x < 0
    · simp only [hn, decide_true, cond_true]
      congr 1
      omega
    · simp only [hn, decide_false, cond_false]
      congr 1
      omega
  · show (bif decide (IntKind.wrap IntKind.i64 (IntKind.wrap IntKind.i64 (g137_0 a - g137_0 b) - x) < 0) then (1 : Int) else 0) = _
    rw [hD]
    by_cases hn : A - B - x < 0
    · simp only [hn, decide_true, cond_true]
      omega
    · simp only [hn, decide_false, cond_false]
      omega

theorem pure3 (x0 x1 : List Row) : g3_0 x0 x1 = true := by
  unfold g3_0
  generalize g15_0 x0 = x
  generalize g15_1 x0 = a
  generalize g15_2 x0 = b
  generalize g21_0 x1 = n
  generalize g25_0 x1 = u
  have hn : g23_1 n = g22_1 n ∧ g23_0 n = g22_0 n := ⟨rfl, rfl⟩
  have hu : g20_0 u = g26_0 u := by simp only [g20_0, g26_0, L146]; rfl
  have hback : (bif bif !g24_0 (g22_0 n) then true else g20_0 (g22_0 n) != n then true else !g24_0 (g22_0 n)) = true → g22_1 n = false := by
    intro h
    rw [Bool.eq_false_iff]
    intro k
    have k' := (L142 n 0 99).1 k
    have e : g22_0 n = g143_0 n := by
      have : g142_0 n 0 99 = true := k
      simp [g22_0, this]
    have := byte_of n k'.1 k'.2
    rw [e] at h
    simp [g20_0, this.1, this.2] at h
  have hb2 : ((bif bif !g24_0 (g22_0 n) then true else g20_0 (g22_0 n) != n then true else !g24_0 (g22_0 n)) && g22_1 n) = false := by
    cases h : (bif bif !g24_0 (g22_0 n) then true else g20_0 (g22_0 n) != n then true else !g24_0 (g22_0 n))
    · rfl
    · rw [hback h]; rfl
  have hend : (bif bif !g22_1 n == g23_1 n then true else g22_0 n != g23_0 n then false else
      bif (bif bif !g24_0 (g22_0 n) then true else g20_0 (g22_0 n) != n then true else !g24_0 (g22_0 n)) && g22_1 n then false else bif bif g24_0 u == g146_0 u then g20_0 u == g26_0 u else false then g24_0 u == g24_0 u else false) = true := by
    rw [hb2, hn.1, hn.2, hu, L146]
    simp
  rw [hend]
  clear hend hb2 hback hu hn
  cases hok : g135_0 x a b
  · have hok' : g138_0 x a b = false := by rw [L138, hok]
    simp [g16_0, g16_1, g16_2, g17_0, g17_1, g17_2, g18_0, g18_1, g18_2, g19_0, g19_1, g19_2, hok, hok']
  · have hok' : g138_0 x a b = true := by rw [L138, hok]
    obtain ⟨A, B, c, r, hA, hB, hx0, hx1, hA0, hA1, hB0, hB1, haA, e1, e2, e3, e4, hr0, hr1, hS, hc0, hc1⟩ := add_law x a b hok
    obtain ⟨d, m, f1, f2, f3, f4, hm0, hm1, hD, hd0, hd1⟩ := sub_law x a b A B hok hA hB hA0 hA1 hB0 hB1 hx0 hx1
    have hv := byte_of r hr0 hr1
    have hw := byte_of m hm0 hm1
    have hok2 := hok
    rw [L135] at hok2
    simp only [Bool.and_eq_true] at hok2
    obtain ⟨⟨ha, hb⟩, hx⟩ := hok2
    have hokv : g135_0 x (g143_0 r) b = true := by rw [L135]; simp only [hv.1, hb, hx, Bool.and_self]
    obtain ⟨d2, m2, k1, k2, -, -, hm20, hm21, hD2, hd20, hd21⟩ := sub_law x (g143_0 r) b r B hokv hv.2 hB hr0 hr1 hB0 hB1 hx0 hx1
    have hback : g143_0 m2 = a := by
      rw [L143 m2 hm20 hm21]
      omega
    have hcar : d2 = c := by omega
    have g17a : g17_0 x a b = g143_0 r := by simp only [g17_0, hok', Bool.not_true, cond_false, e3]
    have g17b : g17_1 x a b = c := by simp only [g17_1, hok', Bool.not_true, cond_false, e4]
    have g19a : g19_0 x a b = g143_0 m := by simp only [g19_0, hok', Bool.not_true, cond_false, f3]
    have g19b : g19_1 x a b = d := by simp only [g19_1, hok', Bool.not_true, cond_false, f4]
    have n1 : g20_0 a = A := by simp only [g20_0, ha, Bool.not_true, cond_false, hA]
    have n2 : g20_0 b = B := by simp only [g20_0, hb, Bool.not_true, cond_false, hB]
    have n3 : g20_0 (g143_0 r) = r := by simp only [g20_0, hv.1, Bool.not_true, cond_false, hv.2]
    have n4 : g20_0 (g143_0 m) = m := by simp only [g20_0, hw.1, Bool.not_true, cond_false, hw.2]
    have s1 : IntKind.wrap IntKind.i64 (IntKind.wrap IntKind.i64 (A + B) + x) = A + B + x := by simp only [IntKind.wrap_i64]; omega
    have s2 : IntKind.wrap IntKind.i64 (r + IntKind.wrap IntKind.i64 (100 * c)) = A + B + x := by simp only [IntKind.wrap_i64]; omega
    have s3 : IntKind.wrap IntKind.i64 (IntKind.wrap IntKind.i64 (A - B) - x) = A - B - x := by simp only [IntKind.wrap_i64]; omega
    have s4 : IntKind.wrap IntKind.i64 (m - IntKind.wrap IntKind.i64 (100 * d)) = A - B - x := by simp only [IntKind.wrap_i64]; omega
    simp [e1, e2, f1, f2, g17a, g17b, g19a, g19b, g16_2, g17_2, g18_2, g19_2, hok, hok', hokv, ha, hb, hv.1, hw.1, n1, n2, n3, n4, s1, s2, s3, s4, k1, k2, hback, hcar]
end Go.Proofs.YtckjibiolfapiaaBcd
