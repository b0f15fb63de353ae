/- Quotients: the plain law. -/
import Derived.Test.YtckjibiolfapiaaZqQuotientsQ
import Derived.Test.YtckjibiolfapiaaZqList
set_option linter.unusedVariables false
set_option linter.unusedSimpArgs false
namespace Go.Proofs.YtckjibiolfapiaaQuotients
open Go Go.Zq
set_option maxHeartbeats 4000000

theorem u64_at {n : Int} (h0 : 0 ≤ n) (h1 : n < 18446744073709551616) : IntKind.wrap IntKind.u64 n = n := by
  have : IntKind.u64.wrap n = n % 18446744073709551616 := by simp [IntKind.wrap, IntKind.bits, IntKind.signed]
  rw [this]; omega
/-- An even number and a bit. -/
theorem or_bit (x b : Int) (hx0 : 0 ≤ x) (hx1 : x < 4611686018427387904) (hb : b = 0 ∨ b = 1) : IntKind.wrap IntKind.i64 (↑(BitVec.toNat (BitVec.ofInt (64 : Nat) (x * 2) ||| BitVec.ofInt (64 : Nat) b)) : Int) = 2 * x + b := by
  have e : (BitVec.ofInt 64 (x * 2) ||| BitVec.ofInt 64 b).toNat = (2 * x + b).toNat := by
    rw [BitVec.toNat_or, BitVec.toNat_ofInt, BitVec.toNat_ofInt]
    have e1 : (x * 2 % ((2 ^ 64 : Nat) : Int)).toNat = 2 ^ 1 * x.toNat := by omega
    have e2 : (b % ((2 ^ 64 : Nat) : Int)).toNat = b.toNat := by omega
    rw [e1, e2, ← Nat.two_pow_add_eq_or_of_lt (by omega : b.toNat < 2 ^ 1)]
    omega
  rw [e, IntKind.wrap_i64]
  omega

/-- How many bits are 1, of k. -/
def pop : Nat → Int → Int
  | 0, _ => 0
  | k + 1, v => v % 2 + pop k (v / 2)
theorem pop_zero : ∀ k, pop k 0 = 0
  | 0 => rfl
  | k + 1 => by simp [pop, pop_zero k]
theorem pop_more : ∀ (k : Nat) (v : Int), 0 ≤ v → v < 2 ^ k → pop (k + 1) v = pop k v
  | 0, v, h0, h1 => by
    have : v = 0 := by simp at h1; omega
    subst this
    rfl
  | k + 1, v, h0, h1 => by
    rw [Int.pow_succ] at h1
    have := pop_more k (v / 2) (by omega) (by omega)
    rw [pop, this]
    rfl
theorem pop_rng : ∀ (k : Nat) (v : Int), 0 ≤ pop k v ∧ pop k v ≤ k
  | 0, v => by simp [pop]
  | k + 1, v => by
    have := pop_rng k (v / 2)
    rw [pop]
    omega

theorem run60 : ∀ (k : Nat) (v c : Int) (m : Nat), 0 ≤ v → v < 2 ^ k → 0 ≤ c → c + k ≤ 1000 → k < m → ∃ z, L60_0 m v c = some (z, c + pop k v)
  | 0, v, c, m + 1, h0, h1, h2, h3, h4 => by
    have : v = 0 := by simp at h1; omega
    subst this
    exact ⟨0, by simp [L60_0, y60_0, z60_0, pop]⟩
  | k + 1, v, c, m + 1, h0, h1, h2, h3, h4 => by
    by_cases hv : v = 0
    · subst hv
      exact ⟨0, by rw [pop_zero]; simp [L60_0, y60_0, z60_0]⟩
    · rw [Int.pow_succ] at h1
      have hb : IntKind.wrap IntKind.i64 (↑(BitVec.toNat (BitVec.ofInt (64 : Nat) v &&& BitVec.ofInt (64 : Nat) (1 : Int))) : Int) = v % 2 := by
        have := bit_at v 1 (by decide)
        rw [Int.fdiv_one, Int.ediv_one] at this
        exact this
      have hf : v.fdiv 2 = v / 2 := Int.fdiv_eq_ediv_of_nonneg _ (by decide)
      have hw : IntKind.wrap IntKind.i64 (c + v % 2) = c + v % 2 := by rw [IntKind.wrap_i64]; omega
      obtain ⟨z, ih⟩ := run60 k (v / 2) (c + v % 2) m (by omega) (by omega) (by omega) (by omega) (by omega)
      refine ⟨z, ?_⟩
      have hz : z60_0 v c = false := by
        unfold z60_0
        have : decide (v > 0) = true := by rw [decide_eq_true_eq]; omega
        rw [this]; rfl
      rw [L60_0, hz]
      have hy : y60_0 v c = true := rfl
      rw [hy, cond_true, cond_false, hb, hf, hw, ih, pop]
      congr 2
      omega

/-- Division, bit by bit: quotient, what is left, how often. -/
def dv (low by_ : Int) : Nat → Int → Int → Int → Int × Int × Int
  | 0, q, l, t => (q, l, t)
  | k + 1, q, l, t => if by_ ≤ 2 * l + (low / 2 ^ k) % 2 then dv low by_ k (2 * q + 1) (2 * l + (low / 2 ^ k) % 2 - by_) (t + 1) else dv low by_ k (2 * q) (2 * l + (low / 2 ^ k) % 2) t

theorem emod_two (n P : Int) (hP : 0 < P) : n % (P * 2) = n % P + P * ((n / P) % 2) := by
  have h1 := Int.mul_ediv_add_emod n P
  have h2 := Int.emod_nonneg n (show P ≠ 0 by omega)
  have h3 := Int.emod_lt_of_pos n hP
  have hb : (n / P) % 2 = 0 ∨ (n / P) % 2 = 1 := Int.emod_two_eq _
  have h4 : n / P = 2 * (n / P / 2) + (n / P) % 2 := by omega
  refine ((Int.ediv_emod_unique (a := n) (b := P * 2) (q := n / P / 2) (by omega)).2 ⟨?_, ?_, ?_⟩).2
  · have h5 : P * 2 * (n / P / 2) = P * (2 * (n / P / 2)) := Int.mul_assoc ..
    have h6 : P * ((n / P) % 2) + P * (2 * (n / P / 2)) = P * (n / P) := by
      rw [← Int.mul_add]
      congr 1
      omega
    rw [h5]
    omega
  · rcases hb with h | h <;> rw [h] <;> omega
  · rcases hb with h | h <;> rw [h] <;> omega
theorem dv_eq (low by_ : Int) (hl : 0 ≤ low) : ∀ (k : Nat) (q l t : Int), 0 ≤ l → l < by_ → 0 ≤ q →
    (dv low by_ k q l t).1 * by_ + (dv low by_ k q l t).2.1 = (q * by_ + l) * 2 ^ k + low % 2 ^ k ∧ 0 ≤ (dv low by_ k q l t).2.1 ∧ (dv low by_ k q l t).2.1 < by_ ∧ 0 ≤ (dv low by_ k q l t).1
  | 0, q, l, t, h0, h1, h2 => by simp [dv, h0, h1, h2, Int.emod_one]
  | k + 1, q, l, t, h0, h1, h2 => by
    have hm : low % 2 ^ (k + 1) = low % 2 ^ k + 2 ^ k * ((low / 2 ^ k) % 2) := by
      rw [Int.pow_succ]
      exact emod_two low (2 ^ k) (Int.pow_pos (by decide))
    have hb : (low / 2 ^ k) % 2 = 0 ∨ (low / 2 ^ k) % 2 = 1 := Int.emod_two_eq _
    rw [hm, Int.pow_succ]
    rw [dv]
    generalize (low / 2 ^ k) % 2 = b at hb
    have e1 : (2 * q + 1) * by_ + (2 * l + b - by_) = 2 * (q * by_ + l) + b := by rw [Int.add_mul, Int.mul_assoc]; omega
    have e2 : 2 * q * by_ + (2 * l + b) = 2 * (q * by_ + l) + b := by rw [Int.mul_assoc]; omega
    have e3 : (2 * (q * by_ + l) + b) * 2 ^ k = 2 * ((q * by_ + l) * 2 ^ k) + 2 ^ k * b := by rw [Int.add_mul, Int.mul_assoc, Int.mul_comm b]
    have e4 : (q * by_ + l) * (2 ^ k * 2) = 2 * ((q * by_ + l) * 2 ^ k) := by rw [← Int.mul_assoc, Int.mul_comm]
    by_cases hc : by_ ≤ 2 * l + b
    · rw [if_pos hc]
      have ih := dv_eq low by_ hl k (2 * q + 1) (2 * l + b - by_) (t + 1) (by omega) (by omega) (by omega)
      rw [e1, e3] at ih
      rw [e4]
      exact ⟨by omega, ih.2⟩
    · rw [if_neg hc]
      have ih := dv_eq low by_ hl k (2 * q) (2 * l + b) t (by omega) (by omega) (by omega)
      rw [e2, e3] at ih
      rw [e4]
      exact ⟨by omega, ih.2⟩
theorem dv_pop (low by_ : Int) : ∀ (k j : Nat) (q l t : Int), 0 ≤ q → q < 2 ^ j → (dv low by_ k q l t).2.2 - t = pop (j + k) (dv low by_ k q l t).1 - pop j q ∧ (dv low by_ k q l t).1 < 2 ^ (j + k)
  | 0, j, q, l, t, h0, h1 => by simp [dv, h1]
  | k + 1, j, q, l, t, h0, h1 => by
    have p1 : pop (j + 1) (2 * q + 1) = 1 + pop j q := by
      rw [pop]
      have : (2 * q + 1) % 2 = 1 ∧ (2 * q + 1) / 2 = q := by omega
      rw [this.1, this.2]
    have p0 : pop (j + 1) (2 * q) = pop j q := by
      rw [pop]
      have : (2 * q) % 2 = 0 ∧ (2 * q) / 2 = q := by omega
      rw [this.1, this.2]; omega
    have hp : (2 : Int) ^ (j + 1) = 2 ^ j * 2 := Int.pow_succ ..
    rw [dv, show j + (k + 1) = (j + 1) + k by omega]
    by_cases hc : by_ ≤ 2 * l + (low / 2 ^ k) % 2
    · rw [if_pos hc]
      have ih := dv_pop low by_ k (j + 1) (2 * q + 1) (2 * l + (low / 2 ^ k) % 2 - by_) (t + 1) (by omega) (by omega)
      rw [p1] at ih
      omega
    · rw [if_neg hc]
      have ih := dv_pop low by_ k (j + 1) (2 * q) (2 * l + (low / 2 ^ k) % 2) t (by omega) (by omega)
      rw [p0] at ih
      omega

theorem run58 (low by_ : Int) (hby : by_ ≤ 65535) : ∀ (k j : Nat) (q l t : Int) (m : Nat), j + k = 16 → 0 ≤ l → l < by_ → 0 ≤ q → q < 2 ^ j → 0 ≤ t → t ≤ j → k < m →
    L58_0 m low by_ q l t ((k : Int) - 1) = some (low, by_, (dv low by_ k q l t).1, (dv low by_ k q l t).2.1, (dv low by_ k q l t).2.2, -1)
  | 0, j, q, l, t, m + 1, hj, h0, h1, h2, h3, h4, h5, h6 => by simp [L58_0, y58_0, z58_0, dv]
  | k + 1, j, q, l, t, m + 1, hj, h0, h1, h2, h3, h4, h5, h6 => by
    have ek : (((k + 1 : Nat) : Int) - 1) = (k : Int) := by omega
    have hge : decide ((k : Int) ≥ 0) = true := by rw [decide_eq_true_eq]; omega
    have hy : y58_0 low by_ q l t (k : Int) = true := by
      unfold y58_0
      have : decide ((0 : Int) ≤ (k : Int)) = true := by rw [decide_eq_true_eq]; omega
      rw [this]; rfl
    have hz : z58_0 low by_ q l t (k : Int) = false := by unfold z58_0; rw [hge]; rfl
    have hbit := bit_at low (2 ^ k) (Int.le_of_lt (Int.pow_pos (by decide)))
    have hbv : (low / 2 ^ k) % 2 = 0 ∨ (low / 2 ^ k) % 2 = 1 := Int.emod_two_eq _
    have hq2 : (2 : Int) ^ j ≤ 32768 := by
      have h2 : (2 : Nat) ^ j ≤ 2 ^ 15 := Nat.pow_le_pow_right (by decide) (by omega)
      have e : ((2 : Int) ^ j) = ((2 ^ j : Nat) : Int) := by simp
      rw [e]; omega
    have hp : (2 : Int) ^ (j + 1) = 2 ^ j * 2 := Int.pow_succ ..
    rw [ek, L58_0, hy, hz, cond_true, cond_false, pow_at (by omega), hbit, dv]
    generalize (low / 2 ^ k) % 2 = b at hbv
    have w1 : IntKind.wrap IntKind.i64 (2 * l) = 2 * l := by rw [IntKind.wrap_i64]; omega
    have w2 : IntKind.wrap IntKind.i64 (2 * l + b) = 2 * l + b := by rw [IntKind.wrap_i64]; omega
    have w3 : IntKind.wrap IntKind.i64 (2 * l + b - by_) = 2 * l + b - by_ := by rw [IntKind.wrap_i64]; omega
    have w4 : IntKind.wrap IntKind.i64 (q * 2) = 2 * q := by rw [IntKind.wrap_i64]; omega
    have w5 : IntKind.wrap IntKind.i64 (2 * q + 1) = 2 * q + 1 := by rw [IntKind.wrap_i64]; omega
    have w6 : IntKind.wrap IntKind.i64 (t + 1) = t + 1 := by rw [IntKind.wrap_i64]; omega
    have w7 : IntKind.wrap IntKind.i64 ((k : Int) - 1) = (k : Int) - 1 := by rw [IntKind.wrap_i64]; omega
    rw [w1, w2, w3, w4, w5, w6, w7]
    by_cases hc : by_ ≤ 2 * l + b
    · simp only [hc, decide_true, cond_true, if_true]
      exact run58 low by_ hby k (j + 1) (2 * q + 1) (2 * l + b - by_) (t + 1) m (by omega) (by omega) (by omega) (by omega) (by omega) (by omega) (by omega) (by omega)
    · simp only [hc, decide_false, cond_false, if_false]
      exact run58 low by_ hby k (j + 1) (2 * q) (2 * l + b) t m (by omega) (by omega) (by omega) (by omega) (by omega) (by omega) (by omega) (by omega)
theorem run59 (low by_ : Int) (hby : by_ ≤ 65535) : ∀ (k j : Nat) (q l t : Int) (m : Nat), j + k = 16 → 0 ≤ l → l < by_ → 0 ≤ q → q < 2 ^ j → 0 ≤ t → t ≤ j → k < m →
    L59_0 m low by_ l q t ((k : Int) - 1) = some (low, by_, (dv low by_ k q l t).2.1, (dv low by_ k q l t).1, (dv low by_ k q l t).2.2, -1)
  | 0, j, q, l, t, m + 1, hj, h0, h1, h2, h3, h4, h5, h6 => by simp [L59_0, y59_0, z59_0, dv]
  | k + 1, j, q, l, t, m + 1, hj, h0, h1, h2, h3, h4, h5, h6 => by
    have ek : (((k + 1 : Nat) : Int) - 1) = (k : Int) := by omega
    have hge : decide ((k : Int) ≥ 0) = true := by rw [decide_eq_true_eq]; omega
    have hy : y59_0 low by_ l q t (k : Int) = true := rfl
    have hz : z59_0 low by_ l q t (k : Int) = false := by unfold z59_0; rw [hge]; rfl
    have hbit := bit_at low (2 ^ k) (Int.le_of_lt (Int.pow_pos (by decide)))
    have hbv : (low / 2 ^ k) % 2 = 0 ∨ (low / 2 ^ k) % 2 = 1 := Int.emod_two_eq _
    have hq2 : (2 : Int) ^ j ≤ 32768 := by
      have h2 : (2 : Nat) ^ j ≤ 2 ^ 15 := Nat.pow_le_pow_right (by decide) (by omega)
      have e : ((2 : Int) ^ j) = ((2 ^ j : Nat) : Int) := by simp
      rw [e]; omega
    have hp : (2 : Int) ^ (j + 1) = 2 ^ j * 2 := Int.pow_succ ..
    rw [ek, L59_0, hy, hz, cond_true, cond_false, u64_at (by omega : (0 : Int) ≤ (k : Int)) (by omega), pow_at (by omega), hbit, dv]
    generalize (low / 2 ^ k) % 2 = b at hbv
    have w1 : IntKind.wrap IntKind.i64 (l * 2) = l * 2 := by rw [IntKind.wrap_i64]; omega
    have w2 := or_bit l b h0 (by omega) hbv
    have w3 : IntKind.wrap IntKind.i64 (2 * l + b - by_) = 2 * l + b - by_ := by rw [IntKind.wrap_i64]; omega
    have w4 : IntKind.wrap IntKind.i64 (q * 2) = q * 2 := by rw [IntKind.wrap_i64]; omega
    have w5 := or_bit q 1 h2 (by omega) (.inr rfl)
    have w6 : IntKind.wrap IntKind.i64 (t + 1) = t + 1 := by rw [IntKind.wrap_i64]; omega
    have w7 : IntKind.wrap IntKind.i64 ((k : Int) - 1) = (k : Int) - 1 := by rw [IntKind.wrap_i64]; omega
    have w8 : q * 2 = 2 * q := by omega
    rw [w1, w2, w3, w4, w5, w6, w7, w8]
    by_cases hc : by_ ≤ 2 * l + b
    · simp only [ge_iff_le, hc, decide_true, cond_true, if_true]
      exact run59 low by_ hby k (j + 1) (2 * q + 1) (2 * l + b - by_) (t + 1) m (by omega) (by omega) (by omega) (by omega) (by omega) (by omega) (by omega) (by omega)
    · simp only [ge_iff_le, hc, decide_false, cond_false, if_false]
      exact run59 low by_ hby k (j + 1) (2 * q) (2 * l + b) t m (by omega) (by omega) (by omega) (by omega) (by omega) (by omega) (by omega) (by omega)

/-- A list is the same as itself. -/
theorem l47 (p q : Bool) : ∀ (r pre : List Int) (m : Nat), (pre ++ r).length < 4611686018427387904 → r.length < m →
    L47_0 m p (ri (pre ++ r)) q (ri (pre ++ r)) ((pre ++ r).length : Int) (pre.length : Int) = some (p, ri (pre ++ r), q, ri (pre ++ r), ((pre ++ r).length : Int), ((pre ++ r).length : Int))
  | [], pre, m + 1, hl, hm => by
    simp [L47_0, y47_0, z47_0]
  | d :: r, pre, m + 1, hl, hm => by
    have hlt : ((pre.length : Nat) : Int) < ((pre ++ d :: r).length : Int) := by simp; omega
    have hg : (pre ++ d :: r)[pre.length]? = some d := get_mid
    have e1 := ri_at hg
    have e2 := ri_in hg
    have hw4 : IntKind.wrap IntKind.i64 ((pre.length : Int) + 1) = ((pre ++ [d]).length : Int) := by
      rw [IntKind.wrap_i64, List.length_append]; simp only [List.length_append, List.length_cons, List.length_nil] at *; omega
    have hy : y47_0 p (ri (pre ++ d :: r)) q (ri (pre ++ d :: r)) ((pre ++ d :: r).length : Int) (pre.length : Int) = true := by
      simp only [y47_0, e2, Bool.and_self, Bool.true_or]
    have hz : z47_0 p (ri (pre ++ d :: r)) q (ri (pre ++ d :: r)) ((pre ++ d :: r).length : Int) (pre.length : Int) = false := by
      simp only [z47_0, hlt, decide_true, Bool.not_true, Bool.or_false, bne_self_eq_false]
    have e3 : pre ++ d :: r = (pre ++ [d]) ++ r := by simp
    have ih := l47 p q r (pre ++ [d]) m (by rw [← e3]; exact hl) (by simp only [List.length_cons] at hm; omega)
    rw [L47_0, hy, hz, cond_true, cond_false, hw4]
    rw [← e3] at ih
    exact ih
theorem same_ints (p q : Bool) (l : List Int) (h : l.length < 4611686018427387904) : g47_0 p (ri l) q (ri l) = true ∧ Option.isSome (L47_0 (List.length (ri l) + 1) p (ri l) q (ri l) (↑(List.length (ri l)) : Int) 0) = true := by
  have e := l47 p q l [] (List.length (ri l) + 1) (by simpa using h) (by rw [ri_len]; omega)
  simp only [List.nil_append, List.length_nil] at e
  have e' : L47_0 (List.length (ri l) + 1) p (ri l) q (ri l) (↑(List.length (ri l)) : Int) 0 = some (p, ri l, q, ri l, (l.length : Int), (l.length : Int)) := by
    rw [ri_len] at e ⊢
    exact e
  constructor
  · unfold g47_0
    simp only [w47_0_1, w47_0_3, w47_0_4, w47_0_5, e', Option.getD_some, bne_self_eq_false, cond_false, Bool.false_and, Bool.not_false]
  · rw [e']; rfl

/-- Division without putting back: digits 1 and -1, and what is left. -/
def nv (a by_ : Int) : Nat → Int → List Int × Int
  | 0, r => ([], r)
  | k + 1, r =>
    let x := bif decide (r ≥ 0) then 2 * r + (a / 2 ^ k) % 2 - by_ else 2 * r + (a / 2 ^ k) % 2 + by_
    ((bif decide (x ≥ 0) then 1 else -1) :: (nv a by_ k x).1, (nv a by_ k x).2)
def tr (by_ r : Int) : Int := bif decide (r < 0) then r + by_ else r
def val (q : Int) : List Int → Int
  | [] => q
  | d :: r => val (bif d == 1 then 2 * q + 1 else 2 * q) r

theorem nv_len (a by_ : Int) : ∀ (k : Nat) (r : Int), (nv a by_ k r).1.length = k
  | 0, r => rfl
  | k + 1, r => by simp [nv, nv_len a by_ k]
theorem nv_eq (a by_ : Int) : ∀ (k : Nat) (q r : Int), -by_ ≤ r → r < by_ →
    val q (nv a by_ k r).1 * by_ + tr by_ (nv a by_ k r).2 = (q * by_ + tr by_ r) * 2 ^ k + a % 2 ^ k ∧ -by_ ≤ (nv a by_ k r).2 ∧ (nv a by_ k r).2 < by_
  | 0, q, r, h0, h1 => by simp [nv, val, h0, h1, Int.emod_one]
  | k + 1, q, r, h0, h1 => by
    have hm : a % 2 ^ (k + 1) = a % 2 ^ k + 2 ^ k * ((a / 2 ^ k) % 2) := by
      rw [Int.pow_succ]
      exact emod_two a (2 ^ k) (Int.pow_pos (by decide))
    have hb : (a / 2 ^ k) % 2 = 0 ∨ (a / 2 ^ k) % 2 = 1 := Int.emod_two_eq _
    rw [hm, Int.pow_succ]
    simp only [nv, val]
    generalize (a / 2 ^ k) % 2 = b at hb
    have e4 : (q * by_ + tr by_ r) * (2 ^ k * 2) = 2 * ((q * by_ + tr by_ r) * 2 ^ k) := by rw [← Int.mul_assoc, Int.mul_comm]
    have e3 : (2 * (q * by_ + tr by_ r) + b) * 2 ^ k = 2 * ((q * by_ + tr by_ r) * 2 ^ k) + 2 ^ k * b := by rw [Int.add_mul, Int.mul_assoc, Int.mul_comm b]
    have q1 : (2 * q + 1) * by_ = 2 * (q * by_) + by_ := by rw [Int.add_mul, Int.mul_assoc]; omega
    have q0 : 2 * q * by_ = 2 * (q * by_) := Int.mul_assoc ..
    -- the next rest
    have hx : ∃ x : Int, (bif decide (r ≥ 0) then 2 * r + b - by_ else 2 * r + b + by_) = x ∧ -by_ ≤ x ∧ x < by_ ∧ 2 * tr by_ r + b = x + by_ := by
      unfold tr
      by_cases hr : r ≥ 0
      · have hr2 : ¬ r < 0 := by omega
        simp only [hr, hr2, decide_true, decide_false, cond_true, cond_false]
        exact ⟨_, rfl, by omega, by omega, by omega⟩
      · have hr2 : r < 0 := by omega
        simp only [hr, hr2, decide_true, decide_false, cond_true, cond_false]
        exact ⟨_, rfl, by omega, by omega, by omega⟩
    obtain ⟨x, ex, x0, x1, x2⟩ := hx
    rw [ex, e4]
    by_cases hc : x ≥ 0
    · have hd : ((bif decide (x ≥ 0) then (1 : Int) else -1) == 1) = true := by simp [hc]
      rw [hd, cond_true]
      have ih := nv_eq a by_ k (2 * q + 1) x x0 x1
      have et : tr by_ x = x := by unfold tr; have : ¬ x < 0 := by omega
                                   simp [this]
      have e5 : (2 * q + 1) * by_ + tr by_ x = 2 * (q * by_ + tr by_ r) + b := by rw [q1, et]; omega
      rw [e5, e3] at ih
      exact ⟨by omega, ih.2⟩
    · have hd : ((bif decide (x ≥ 0) then (1 : Int) else -1) == 1) = false := by simp [hc]
      rw [hd, cond_false]
      have ih := nv_eq a by_ k (2 * q) x x0 x1
      have et : tr by_ x = x + by_ := by unfold tr; have : x < 0 := by omega
                                         simp [this]
      have e5 : 2 * q * by_ + tr by_ x = 2 * (q * by_ + tr by_ r) + b := by rw [q0, et]; omega
      rw [e5, e3] at ih
      exact ⟨by omega, ih.2⟩

theorem run62 (a by_ : Int) (hb0 : 1 ≤ by_) (hb1 : by_ ≤ 32767) : ∀ (k : Nat) (o : List Int) (r : Int) (m : Nat), o.length + k ≤ 16 → -by_ ≤ r → r < by_ → k < m →
    L62_0 m (ri o) a by_ r ((k : Int) - 1) = some (ri (o ++ (nv a by_ k r).1), a, by_, (nv a by_ k r).2, -1)
  | 0, o, r, m + 1, h0, h1, h2, h3 => by simp [L62_0, y62_0, z62_0, nv]
  | k + 1, o, r, m + 1, h0, h1, h2, h3 => by
    have ek : (((k + 1 : Nat) : Int) - 1) = (k : Int) := by omega
    have hge : decide ((k : Int) ≥ 0) = true := by rw [decide_eq_true_eq]; omega
    have hle : decide ((0 : Int) ≤ (k : Int)) = true := by rw [decide_eq_true_eq]; omega
    have hbit := bit_at a (2 ^ k) (Int.le_of_lt (Int.pow_pos (by decide)))
    have hbv : (a / 2 ^ k) % 2 = 0 ∨ (a / 2 ^ k) % 2 = 1 := Int.emod_two_eq _
    have hy : y62_0 (ri o) a by_ r (k : Int) = true := by
      unfold y62_0
      have a1 : decide ((o.length + 1) * 8 ≤ 140737488355328) = true ∧ decide (o.length + 1 ≤ 140737488355328) = true := by
        simp only [decide_eq_true_eq]; omega
      rw [hle, ri_len]
      simp only [Nat.zero_add, decide_true, a1.1, a1.2, Bool.and_self, Bool.true_or]
    have hz : z62_0 (ri o) a by_ r (k : Int) = false := by unfold z62_0; rw [hge]; rfl
    rw [ek, L62_0, hy, hz, cond_true, cond_false, pow_at (by omega), hbit]
    simp only [nv]
    generalize (a / 2 ^ k) % 2 = b at hbv
    have w1 : IntKind.wrap IntKind.i64 (2 * r) = 2 * r := by rw [IntKind.wrap_i64]; omega
    have w2 : IntKind.wrap IntKind.i64 (2 * r + b) = 2 * r + b := by rw [IntKind.wrap_i64]; omega
    have w3 : IntKind.wrap IntKind.i64 (2 * r + b - by_) = 2 * r + b - by_ := by rw [IntKind.wrap_i64]; omega
    have w4 : IntKind.wrap IntKind.i64 (2 * r + b + by_) = 2 * r + b + by_ := by rw [IntKind.wrap_i64]; omega
    have w7 : IntKind.wrap IntKind.i64 ((k : Int) - 1) = (k : Int) - 1 := by rw [IntKind.wrap_i64]; omega
    rw [w1, w2, w3, w4, w7]
    have hx : -by_ ≤ (bif decide (r ≥ 0) then 2 * r + b - by_ else 2 * r + b + by_) ∧ (bif decide (r ≥ 0) then 2 * r + b - by_ else 2 * r + b + by_) < by_ := by
      by_cases hr : r ≥ 0
      · simp only [hr, decide_true, cond_true]; omega
      · simp only [hr, decide_false, cond_false]; omega
    generalize (bif decide (r ≥ 0) then 2 * r + b - by_ else 2 * r + b + by_) = x at hx
    have hap : (bif decide (x ≥ 0) then ri o ++ ri [1] else ri o ++ ri [-1]) = ri (o ++ [bif decide (x ≥ 0) then 1 else -1]) := by
      cases decide (x ≥ 0) <;> simp [ri]
    rw [hap, run62 a by_ hb0 hb1 k (o ++ [bif decide (x ≥ 0) then 1 else -1]) x m (by simp; omega) hx.1 hx.2 (by omega)]
    simp
theorem run63 (a by_ : Int) (hb0 : 1 ≤ by_) (hb1 : by_ ≤ 32767) : ∀ (k : Nat) (o : List Int) (r : Int) (m : Nat), o.length + k ≤ 16 → -by_ ≤ r → r < by_ → k < m →
    L63_0 m (ri o) a by_ r ((k : Int) - 1) = some (ri (o ++ (nv a by_ k r).1), a, by_, (nv a by_ k r).2, -1)
  | 0, o, r, m + 1, h0, h1, h2, h3 => by simp [L63_0, y63_0, z63_0, nv]
  | k + 1, o, r, m + 1, h0, h1, h2, h3 => by
    have ek : (((k + 1 : Nat) : Int) - 1) = (k : Int) := by omega
    have hge : decide ((k : Int) ≥ 0) = true := by rw [decide_eq_true_eq]; omega
    have hbit := bit_at a (2 ^ k) (Int.le_of_lt (Int.pow_pos (by decide)))
    have hbv : (a / 2 ^ k) % 2 = 0 ∨ (a / 2 ^ k) % 2 = 1 := Int.emod_two_eq _
    have hy : y63_0 (ri o) a by_ r (k : Int) = true := by
      unfold y63_0
      have a1 : decide ((o.length + 1) * 8 ≤ 140737488355328) = true ∧ decide (o.length + 1 ≤ 140737488355328) = true := by
        simp only [decide_eq_true_eq]; omega
      rw [ri_len]
      simp only [Nat.zero_add, decide_true, a1.1, a1.2, Bool.and_self, Bool.true_or]
    have hz : z63_0 (ri o) a by_ r (k : Int) = false := by unfold z63_0; rw [hge]; rfl
    rw [ek, L63_0, hy, hz, cond_true, cond_false, u64_at (by omega : (0 : Int) ≤ (k : Int)) (by omega), pow_at (by omega), hbit]
    simp only [nv]
    generalize (a / 2 ^ k) % 2 = b at hbv
    have w1 : IntKind.wrap IntKind.i64 (2 * r) = 2 * r := by rw [IntKind.wrap_i64]; omega
    have w2 : IntKind.wrap IntKind.i64 (2 * r + b) = 2 * r + b := by rw [IntKind.wrap_i64]; omega
    have w3 : IntKind.wrap IntKind.i64 (2 * r + b - by_) = 2 * r + b - by_ := by rw [IntKind.wrap_i64]; omega
    have w4 : IntKind.wrap IntKind.i64 (2 * r + b + by_) = 2 * r + b + by_ := by rw [IntKind.wrap_i64]; omega
    have w7 : IntKind.wrap IntKind.i64 ((k : Int) - 1) = (k : Int) - 1 := by rw [IntKind.wrap_i64]; omega
    rw [w1, w2, w3, w4, w7]
    have hx : -by_ ≤ (bif decide (r ≥ 0) then 2 * r + b - by_ else 2 * r + b + by_) ∧ (bif decide (r ≥ 0) then 2 * r + b - by_ else 2 * r + b + by_) < by_ := by
      by_cases hr : r ≥ 0
      · simp only [hr, decide_true, cond_true]; omega
      · simp only [hr, decide_false, cond_false]; omega
    generalize (bif decide (r ≥ 0) then 2 * r + b - by_ else 2 * r + b + by_) = x at hx
    have hap : ri o ++ ri [IntKind.wrap IntKind.i64 (IntKind.wrap IntKind.i64 (2 * g168_0 (decide (x ≥ 0)) 1) - 1)] = ri (o ++ [bif decide (x ≥ 0) then 1 else -1]) := by
      rw [← ri_append]
      congr 2
      cases decide (x ≥ 0) <;> rfl
    rw [hap, run63 a by_ hb0 hb1 k (o ++ [bif decide (x ≥ 0) then 1 else -1]) x m (by simp; omega) hx.1 hx.2 (by omega)]
    simp

theorem run7 (rows : List Row) (a b c n : Int) : ∀ (r pre : List Int) (s : Int) (m : Nat), ((pre.length + r.length : Nat) : Int) = n → n ≤ 16 → 0 ≤ s → s < 2 ^ pre.length → r.length < m →
    L7_0 m (ri (pre ++ r)) rows a b c s n (pre.length : Int) = some (ri (pre ++ r), rows, a, b, c, val s r, n, n)
  | [], pre, s, m + 1, h0, h1, h2, h3, h4 => by
    have e : ((pre.length : Nat) : Int) = n := by simpa using h0
    rw [e]
    simp [L7_0, y7_0, z7_0, val]
  | d :: r, pre, s, m + 1, h0, h1, h2, h3, h4 => by
    simp only [List.length_cons] at h0 h4
    have hlt : ((pre.length : Nat) : Int) < n := by omega
    have hg : (pre ++ d :: r)[pre.length]? = some d := get_mid
    have hq2 : (2 : Int) ^ pre.length ≤ 32768 := by
      have h2 : (2 : Nat) ^ pre.length ≤ 2 ^ 15 := Nat.pow_le_pow_right (by decide) (by omega)
      have e : ((2 : Int) ^ pre.length) = ((2 ^ pre.length : Nat) : Int) := by simp
      rw [e]; omega
    have hy : y7_0 (ri (pre ++ d :: r)) rows a b c s n (pre.length : Int) = true := by
      unfold y7_0
      rw [Nat.zero_add, Int.toNat_natCast, ri_has hg]
      have : decide ((pre.length : Int) < ((ri (pre ++ d :: r)).length : Int)) = true := by rw [decide_eq_true_eq]; simp [ri]; omega
      rw [this]
      simp
    have hz : z7_0 (ri (pre ++ d :: r)) rows a b c s n (pre.length : Int) = false := by
      unfold z7_0; simp only [hlt, decide_true]; rfl
    have w1 : IntKind.wrap IntKind.i64 (s * 2) = 2 * s := by rw [IntKind.wrap_i64]; omega
    have w2 : IntKind.wrap IntKind.i64 (2 * s + 1) = 2 * s + 1 := by rw [IntKind.wrap_i64]; omega
    have w3 : IntKind.wrap IntKind.i64 ((pre.length : Int) + 1) = ((pre ++ [d]).length : Int) := by rw [IntKind.wrap_i64, List.length_append]; simp only [List.length_cons, List.length_nil]; omega
    have hp : (2 : Int) ^ (pre ++ [d]).length = 2 ^ pre.length * 2 := by rw [List.length_append, List.length_cons, List.length_nil, Nat.zero_add, Int.pow_succ]
    have hs : 0 ≤ (bif d == 1 then 2 * s + 1 else 2 * s) ∧ (bif d == 1 then 2 * s + 1 else 2 * s) < 2 ^ (pre ++ [d]).length := by
      rw [hp]
      cases d == 1
      · simp only [cond_false]; omega
      · simp only [cond_true]; omega
    have e3 : pre ++ d :: r = (pre ++ [d]) ++ r := by simp
    have ih := run7 rows a b c n r (pre ++ [d]) (bif d == 1 then 2 * s + 1 else 2 * s) m (by simp; omega) h1 hs.1 hs.2 (by omega)
    rw [L7_0, hy, hz, cond_true, cond_false, Nat.zero_add, Int.toNat_natCast, ri_at hg, w1, w2, w3, val]
    rw [← e3] at ih
    exact ih

theorem same66 : ∀ (m : Nat) (v s : Int), L66_0 m v s = L65_0 m v s
  | 0, _, _ => rfl
  | m + 1, v, s => by
    rw [L66_0, L65_0, same66 m]
    rfl
theorem sq_lt {s : Int} (h0 : 0 ≤ s) (h : s * s ≤ 65535) : s ≤ 255 := by
  by_cases hs : s ≤ 255
  · exact hs
  · have h1 : 256 ≤ s := by omega
    have := Int.mul_le_mul h1 h1 (by omega) h0
    omega
theorem run65 (v : Int) (hv : v ≤ 65535) : ∀ (m : Nat) (s : Int), 0 ≤ s → s * s ≤ v → 256 - s < m → ∃ r, L65_0 m v s = some (v, r) ∧ 0 ≤ r ∧ r ≤ 255 ∧ r * r ≤ v ∧ v < (r + 1) * (r + 1)
  | 0, s, h0, h1, h2 => by have := sq_lt h0 (by omega); omega
  | m + 1, s, h0, h1, h2 => by
    have hs := sq_lt h0 (by omega)
    have w1 : IntKind.wrap IntKind.i64 (s + 1) = s + 1 := by rw [IntKind.wrap_i64]; omega
    have hm : 0 ≤ (s + 1) * (s + 1) ∧ (s + 1) * (s + 1) ≤ 65536 := by
      refine ⟨Int.mul_nonneg (by omega) (by omega), ?_⟩
      have := Int.mul_le_mul (show s + 1 ≤ 256 by omega) (show s + 1 ≤ 256 by omega) (by omega) (by decide)
      omega
    have w2 : IntKind.wrap IntKind.i64 ((s + 1) * (s + 1)) = (s + 1) * (s + 1) := by rw [IntKind.wrap_i64]; omega
    rw [L65_0]
    have hy : y65_0 v s = true := rfl
    unfold z65_0
    rw [hy, w1, w2, cond_true]
    by_cases hc : (s + 1) * (s + 1) ≤ v
    · simp only [hc, decide_true, Bool.not_true, Bool.or_false, cond_false]
      exact run65 v hv m (s + 1) (by omega) hc (by omega)
    · simp only [hc, decide_false, Bool.not_false, Bool.true_or, cond_true]
      exact ⟨s, rfl, h0, hs, h1, by omega⟩

theorem nf {b : Bool} (h : (!b) = false) : b = true := by cases b <;> simp_all
theorem nt {b : Bool} (h : (!b) = true) : b = false := by cases b <;> simp_all
theorem w160 (v : Int) : g160_0 v = true ↔ 0 ≤ v ∧ v ≤ 65535 := by simp [g160_0, g142_0]
/-- The check of a long division is the same in both. -/
theorem bad_eq (hi lo by_ : Int) : (bif bif bif !g162_0 hi then true else !g162_0 lo then true else !g144_0 by_ 1 65535 then true else decide (hi ≥ by_)) = (bif bif bif !g160_0 hi then true else !g160_0 lo then true else !g160_0 by_ then true else decide (hi ≥ by_)) := by
  have e1 : g162_0 hi = g160_0 hi := rfl
  have e2 : g162_0 lo = g160_0 lo := rfl
  rw [e1, e2]
  cases h : g160_0 hi
  · rfl
  · have hh := (w160 hi).1 h
    cases g160_0 lo
    · rfl
    · simp only [Bool.not_true, cond_false]
      by_cases hz : 1 ≤ by_
      · have : g144_0 by_ 1 65535 = g160_0 by_ := by
          rw [Bool.eq_iff_iff, w160]
          simp [g144_0]
          omega
        rw [this]
      · have hd : decide (hi ≥ by_) = true := by rw [decide_eq_true_eq]; omega
        rw [hd]
        cases g144_0 by_ 1 65535 <;> cases g160_0 by_ <;> rfl

structure Dv (hi lo by_ : Int) : Prop where
  q : g59_0 hi lo by_ = g58_0 hi lo by_
  l : g59_1 hi lo by_ = g58_1 hi lo by_
  t : g59_2 hi lo by_ = g58_2 hi lo by_
  c1 : IntKind.wrap IntKind.i64 (IntKind.wrap IntKind.i64 (g58_0 hi lo by_ * by_) + g58_1 hi lo by_) = IntKind.wrap IntKind.i64 (IntKind.wrap IntKind.i64 (hi * 65536) + lo)
  c2 : 0 ≤ g58_1 hi lo by_
  c3 : g58_1 hi lo by_ < by_
  c4 : g151_0 2 (g58_0 hi lo by_) = true
  c5 : g60_0 2 (g58_0 hi lo by_) = g58_2 hi lo by_
  c6 : Option.isSome (L60_0 70 (g58_0 hi lo by_) 0) = true
theorem top2 : g218_0 2 = 65536 := by decide +kernel
theorem L151 (v : Int) : g151_0 2 v = true ↔ 0 ≤ v ∧ v ≤ 65535 := by
  unfold g151_0
  rw [top2]
  have e1 : g198_0 2 = true := rfl
  have e2 : IntKind.wrap IntKind.i64 (65536 - 1) = 65535 := by decide
  rw [e1, e2]
  simp [g142_0]
theorem divs {hi lo by_ : Int} (hok : g58_3 hi lo by_ = true) : Dv hi lo by_ := by
  have hb : (bif bif bif !g160_0 hi then true else !g160_0 lo then true else !g160_0 by_ then true else decide (hi ≥ by_)) = false := by
    unfold g58_3 at hok
    exact nt hok
  have hb2 := bad_eq hi lo by_
  rw [hb] at hb2
  have hf : g160_0 hi = true ∧ g160_0 lo = true ∧ g160_0 by_ = true ∧ hi < by_ := by
    cases h1 : g160_0 hi <;> cases h2 : g160_0 lo <;> cases h3 : g160_0 by_ <;> simp_all
  obtain ⟨h1, h2, h3, h4⟩ := hf
  have h1 := (w160 hi).1 h1
  have h2 := (w160 lo).1 h2
  have h3 := (w160 by_).1 h3
  have e58 : L58_0 70 lo by_ 0 hi 0 15 = _ := run58 lo by_ h3.2 16 0 0 hi 0 70 rfl h1.1 h4 (by decide) (by decide) (by decide) (by decide) (by decide)
  have e59 : L59_0 70 lo by_ hi 0 0 15 = _ := run59 lo by_ h3.2 16 0 0 hi 0 70 rfl h1.1 h4 (by decide) (by decide) (by decide) (by decide) (by decide)
  have hd := dv_eq lo by_ h2.1 16 0 hi 0 h1.1 h4 (by decide)
  have hp := dv_pop lo by_ 16 0 0 hi 0 (by decide) (by decide)
  generalize dv lo by_ 16 0 hi 0 = D at e58 e59 hd hp
  obtain ⟨Q, Lf, Tm⟩ := D
  simp only at e58 e59 hd hp
  have k0 : g58_0 hi lo by_ = Q := by unfold g58_0; rw [hb]; simp only [cond_false, w58_0_2, e58, Option.getD_some]
  have k1 : g58_1 hi lo by_ = Lf := by unfold g58_1; rw [hb]; simp only [cond_false, w58_0_3, e58, Option.getD_some]
  have k2 : g58_2 hi lo by_ = Tm := by unfold g58_2; rw [hb]; simp only [cond_false, w58_0_4, e58, Option.getD_some]
  have j0 : g59_0 hi lo by_ = Q := by unfold g59_0; rw [hb2]; simp only [cond_false, w59_0_3, e59, Option.getD_some]
  have j1 : g59_1 hi lo by_ = Lf := by unfold g59_1; rw [hb2]; simp only [cond_false, w59_0_2, e59, Option.getD_some]
  have j2 : g59_2 hi lo by_ = Tm := by unfold g59_2; rw [hb2]; simp only [cond_false, w59_0_4, e59, Option.getD_some]
  simp only [Nat.zero_add, Int.reducePow, Int.zero_mul, Int.zero_add] at hd hp
  have hlo : lo % 65536 = lo := by omega
  rw [hlo] at hd
  have hpop : pop 0 0 = 0 := rfl
  rw [hpop] at hp
  obtain ⟨z, e60⟩ := run60 16 Q 0 70 hd.2.2.2 (by simpa using hp.2) (by decide) (by decide) (by decide)
  have v151 : g151_0 2 Q = true := (L151 Q).2 ⟨hd.2.2.2, by omega⟩
  refine ⟨by rw [j0, k0], by rw [j1, k1], by rw [j2, k2], ?_, by rw [k1]; exact hd.2.1, by rw [k1]; exact hd.2.2.1, by rw [k0]; exact v151, ?_, by rw [k0, e60]; rfl⟩
  · rw [k0, k1]
    simp only [IntKind.wrap_i64]
    have := hd.1
    generalize Q * by_ = X at this
    omega
  · rw [k0, k2]
    unfold g60_0
    rw [v151]
    simp only [Bool.not_true, cond_false, w60_0_1, e60, Option.getD_some]
    omega

structure Ds (a b : Int) (x1 : List Row) (N : List Int) : Prop where
  l62 : g62_2 a b = ri N
  l63 : g63_2 a b = ri N
  r63 : g63_0 a b = g62_0 a b
  s7 : ∃ w, L7_0 70 (ri N) x1 a b (g62_0 a b) 0 (↑(List.length (ri N)) : Int) 0 = some w ∧ w.2.2.2.2.2.1 = IntKind.wrap IntKind.i64 (Int.tdiv a b)
  rem : g62_0 a b = Int.tmod a b
  s62 : Option.isSome (L62_0 70 [] a b 0 15) = true
  n : N.length = 16
  nz : b ≠ 0
theorem steps {a b : Int} (x1 : List Row) (hok : g62_1 a b = true) : ∃ N, Ds a b x1 N := by
  have hb : (bif !g160_0 a then true else !g142_0 b 1 32767) = false := by
    unfold g62_1 at hok
    exact nt hok
  have hb2 : (bif !g162_0 a then true else !g144_0 b 1 32767) = false := hb
  have hf : g160_0 a = true ∧ g142_0 b 1 32767 = true := by
    cases h1 : g160_0 a <;> cases h2 : g142_0 b 1 32767 <;> simp_all
  have h1 := (w160 a).1 hf.1
  have h2 : 1 ≤ b ∧ b ≤ 32767 := by have := hf.2; simpa [g142_0] using this
  have e62 : L62_0 70 [] a b 0 15 = _ := run62 a b h2.1 h2.2 16 [] 0 70 (by decide) (by omega) (by omega) (by decide)
  have e63 : L63_0 70 [] a b 0 15 = _ := run63 a b h2.1 h2.2 16 [] 0 70 (by decide) (by omega) (by omega) (by decide)
  have hn := nv_eq a b 16 0 0 (by omega) (by omega)
  have hlen := nv_len a b 16 0
  generalize nv a b 16 0 = D at e62 e63 hn hlen
  obtain ⟨N, r⟩ := D
  simp only [List.nil_append] at e62 e63 hn hlen
  have ht0 : tr b 0 = 0 := rfl
  have ha : a % 65536 = a := by omega
  simp only [Int.reducePow, ht0, Int.zero_mul, Int.add_zero, Int.zero_add, ha] at hn
  have htr : 0 ≤ tr b r ∧ tr b r < b := by
    unfold tr
    by_cases h : r < 0
    · simp only [h, decide_true, cond_true]; omega
    · simp only [h, decide_false, cond_false]; omega
  have hq := (Int.ediv_emod_unique (a := a) (b := b) (r := tr b r) (q := val 0 N) (by omega)).2 ⟨by rw [Int.mul_comm]; omega, htr.1, htr.2⟩
  have hw : (bif decide (r < 0) then IntKind.wrap IntKind.i64 (r + b) else r) = tr b r := by
    have : IntKind.wrap IntKind.i64 (r + b) = r + b := by rw [IntKind.wrap_i64]; omega
    rw [this]; rfl
  have r62 : g62_0 a b = tr b r := by
    unfold g62_0; rw [hb]
    simp only [cond_false, w62_0_3, e62, Option.getD_some]
    exact hw
  have r63 : g63_0 a b = tr b r := by
    unfold g63_0; rw [hb2]
    simp only [cond_false, w63_0_3, e63, Option.getD_some]
    exact hw
  have e7 := run7 x1 a b (g62_0 a b) 16 N [] 0 70 (by rw [List.length_nil, Nat.zero_add, hlen]; rfl) (by decide) (by decide) (by decide) (by omega)
  refine ⟨N, ?_, ?_, by rw [r62, r63], ⟨(ri N, x1, a, b, g62_0 a b, val 0 N, 16, 16), ?_, ?_⟩, ?_, by rw [e62]; rfl, hlen, by omega⟩
  · unfold g62_2; rw [hb]; simp only [cond_false, w62_0_0, e62, Option.getD_some]
  · unfold g63_2; rw [hb2]; simp only [cond_false, w63_0_0, e63, Option.getD_some]
  · rw [ri_len, hlen]; exact e7
  · simp only
    have hz : 0 ≤ val 0 N ∧ val 0 N ≤ 65535 := by
      rw [← hq.1]
      exact ⟨Int.ediv_nonneg h1.1 (by omega), by have := Int.ediv_le_self b h1.1; omega⟩
    rw [Int.tdiv_eq_ediv_of_nonneg h1.1, hq.1, IntKind.wrap_i64]
    omega
  · rw [r62, Int.tmod_eq_emod_of_nonneg h1.1, hq.2]

theorem pure7 (x0 x1 : List Row) : g7_0 x0 x1 = true := by
  unfold g7_0
  generalize g57_0 x0 = hi
  generalize g57_1 x0 = lo
  generalize g57_2 x0 = by_
  generalize g61_0 x1 = a
  generalize g61_1 x1 = b
  generalize g44_0 x1 = v
  -- the first part
  have h3 : g59_3 hi lo by_ = g58_3 hi lo by_ := by unfold g59_3 g58_3; rw [bad_eq]
  have p1 : (bif bif bif !g58_3 hi lo by_ == g59_3 hi lo by_ then true else g58_0 hi lo by_ != g59_0 hi lo by_ then true else g58_1 hi lo by_ != g59_1 hi lo by_ then true else g58_2 hi lo by_ != g59_2 hi lo by_) = false ∧
      ((bif bif bif bif IntKind.wrap IntKind.i64 (IntKind.wrap IntKind.i64 (g58_0 hi lo by_ * by_) + g58_1 hi lo by_) != IntKind.wrap IntKind.i64 (IntKind.wrap IntKind.i64 (hi * 65536) + lo) then true else decide (g58_1 hi lo by_ < 0) then true else decide (g58_1 hi lo by_ ≥ by_) then true else !g151_0 2 (g58_0 hi lo by_) then true else g60_0 2 (g58_0 hi lo by_) != g58_2 hi lo by_) && g58_3 hi lo by_) = false := by
    rw [h3]
    cases hok : g58_3 hi lo by_
    · have hb : (bif bif bif !g160_0 hi then true else !g160_0 lo then true else !g160_0 by_ then true else decide (hi ≥ by_)) = true := by
        unfold g58_3 at hok
        exact nf hok
      have hb2 := bad_eq hi lo by_
      rw [hb] at hb2
      have q0 : g58_0 hi lo by_ = 0 := by unfold g58_0; rw [hb]; rfl
      have q1 : g58_1 hi lo by_ = 0 := by unfold g58_1; rw [hb]; rfl
      have q2 : g58_2 hi lo by_ = 0 := by unfold g58_2; rw [hb]; rfl
      have q3 : g59_0 hi lo by_ = 0 := by unfold g59_0; rw [hb2]; rfl
      have q4 : g59_1 hi lo by_ = 0 := by unfold g59_1; rw [hb2]; rfl
      have q5 : g59_2 hi lo by_ = 0 := by unfold g59_2; rw [hb2]; rfl
      rw [q0, q1, q2, q3, q4, q5]
      simp
    · have D := divs hok
      have d2 : decide (g58_1 hi lo by_ < 0) = false := by rw [decide_eq_false_iff_not]; have := D.c2; omega
      have d3 : decide (g58_1 hi lo by_ ≥ by_) = false := by rw [decide_eq_false_iff_not]; have := D.c3; omega
      rw [D.q, D.l, D.t, D.c1, D.c4, D.c5, d2, d3]
      simp
  rw [p1.1, p1.2]
  -- the last part
  have p3 : (bif bif g160_0 v == g162_0 v then g65_0 v == g66_0 v else false then bif !g160_0 v then true else bif decide (IntKind.wrap IntKind.i64 (g65_0 v * g65_0 v) ≤ v) then decide (IntKind.wrap IntKind.i64 (IntKind.wrap IntKind.i64 (g65_0 v + 1) * IntKind.wrap IntKind.i64 (g65_0 v + 1)) > v) else false else false) = true := by
    have e1 : g162_0 v = g160_0 v := rfl
    have e2 : g66_0 v = g65_0 v := by unfold g66_0 g65_0; rw [e1]; simp only [w66_0_1, w65_0_1, same66]
    rw [e1, e2]
    cases h : g160_0 v
    · simp
    · have hv := (w160 v).1 h
      obtain ⟨r, e, r0, r1, r2, r3⟩ := run65 v hv.2 300 0 (by decide) (by simpa using hv.1) (by decide)
      have er : g65_0 v = r := by unfold g65_0; rw [h]; simp only [Bool.not_true, cond_false, w65_0_1, e, Option.getD_some]
      have w1 : IntKind.wrap IntKind.i64 (r + 1) = r + 1 := by rw [IntKind.wrap_i64]; omega
      have hm : 0 ≤ (r + 1) * (r + 1) ∧ (r + 1) * (r + 1) ≤ 65536 := by
        refine ⟨Int.mul_nonneg (by omega) (by omega), ?_⟩
        have := Int.mul_le_mul (show r + 1 ≤ 256 by omega) (show r + 1 ≤ 256 by omega) (by omega) (by decide)
        omega
      have hm2 : 0 ≤ r * r := Int.mul_nonneg r0 r0
      have w2 : IntKind.wrap IntKind.i64 ((r + 1) * (r + 1)) = (r + 1) * (r + 1) := by rw [IntKind.wrap_i64]; omega
      have w3 : IntKind.wrap IntKind.i64 (r * r) = r * r := by rw [IntKind.wrap_i64]; omega
      rw [er, w1, w2, w3]
      have d1 : decide (r * r ≤ v) = true := by rw [decide_eq_true_eq]; exact r2
      have d2 : decide ((r + 1) * (r + 1) > v) = true := by rw [decide_eq_true_eq]; exact r3
      rw [d1, d2]
      simp
  rw [p3]
  have e63 : g63_1 a b = g62_1 a b := rfl
  rw [e63]
  cases hok : g62_1 a b
  · have hb : (bif !g160_0 a then true else !g142_0 b 1 32767) = true := by
      unfold g62_1 at hok
      exact nf hok
    have hb2 : (bif !g162_0 a then true else !g144_0 b 1 32767) = true := hb
    have n0 : g62_0 a b = 0 := by unfold g62_0; rw [hb]; rfl
    have n1 : g63_0 a b = 0 := by unfold g63_0; rw [hb2]; rfl
    have n2 : g62_2 a b = ri [] := by unfold g62_2; rw [hb]; rfl
    have n3 : g63_2 a b = ri [] := by unfold g63_2; rw [hb2]; rfl
    rw [n0, n1, n2, n3, (same_ints false false [] (by decide)).1]
    simp
  · obtain ⟨N, D⟩ := steps x1 hok
    obtain ⟨w, e7, h7⟩ := D.s7
    have hs := (same_ints false false N (by rw [D.n]; decide)).1
    have hw7 : w7_0_5 70 (ri N) x1 a b (g62_0 a b) 0 (↑(List.length (ri N)) : Int) 0 = IntKind.wrap IntKind.i64 (Int.tdiv a b) := by
      simp only [w7_0_5, e7, Option.getD_some, h7]
    rw [D.l62, D.l63, D.r63, hs, hw7, D.rem]
    simp

theorem okL (x0 x1 : List Row) (h0 : bytesOk x0 = true) (h1 : bytesOk x1 = true) : ∃ ok, q7 [.one (.imm true 1 x0), .one (.imm true 1 x1)] [] = some ((SV.one (T.lit (Value.bool (g7_0 x0 x1))), []), ok) ∧ ok = true := by
  refine ⟨_, rfl, ?_⟩
  rw [h0, h1]
  have hn : ∀ (n : Int) (b : Bool), (n != 0 || !bif decide (n > 1) then b else false) = true := by
    intro n b
    by_cases h : n = 0
    · subst h; rfl
    · have : (n != 0) = true := by rw [bne_iff_ne]; exact h
      rw [this]; rfl
  rw [hn]
  generalize g57_0 x0 = hi
  generalize g57_1 x0 = lo
  generalize g57_2 x0 = by_
  generalize g61_0 x1 = a
  generalize g61_1 x1 = b
  generalize g44_0 x1 = v
  simp only [List.drop_zero, List.take_length, Nat.zero_add, Nat.le_refl, decide_true]
  have c60 : ((Option.isSome (L60_0 70 (g58_0 hi lo by_) 0) || !g151_0 2 (g58_0 hi lo by_)) && true && true || !g58_3 hi lo by_) = true := by
    cases hok : g58_3 hi lo by_
    · simp
    · rw [(divs hok).c6]; simp
  have c65 : (Option.isSome (L65_0 300 v 0) || !g160_0 v) = true := by
    cases h : g160_0 v
    · simp
    · have hv := (w160 v).1 h
      obtain ⟨r, e, -⟩ := run65 v hv.2 300 0 (by decide) (by simpa using hv.1) (by decide)
      rw [e]; rfl
  have c66 : (Option.isSome (L66_0 300 v 0) || !g162_0 v) = true := by rw [same66]; exact c65
  have e63 : g63_1 a b = g62_1 a b := rfl
  rw [c60, c65, c66, e63]
  cases hok : g62_1 a b
  · have hb : (bif !g160_0 a then true else !g142_0 b 1 32767) = true := by
      unfold g62_1 at hok
      exact nf hok
    have hb2 : (bif !g162_0 a then true else !g144_0 b 1 32767) = true := hb
    have n2 : g62_2 a b = ri [] := by unfold g62_2; rw [hb]; rfl
    have n3 : g63_2 a b = ri [] := by unfold g63_2; rw [hb2]; rfl
    rw [hb, n2, n3, (same_ints false false [] (by decide)).2]
    simp
  · obtain ⟨N, D⟩ := steps x1 hok
    obtain ⟨w, e7, h7⟩ := D.s7
    have hs := (same_ints false false N (by rw [D.n]; decide)).2
    have hnz : (b != 0) = true := by rw [bne_iff_ne]; exact D.nz
    rw [D.l62, D.l63, D.s62, hs, e7, hnz]
    simp
end Go.Proofs.YtckjibiolfapiaaQuotients
