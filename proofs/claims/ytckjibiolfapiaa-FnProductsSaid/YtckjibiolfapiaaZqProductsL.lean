/- Products: the plain law. -/
import Derived.Test.YtckjibiolfapiaaZqProductsQ
import Derived.Test.YtckjibiolfapiaaZqList
set_option linter.unusedVariables false
set_option linter.unusedSimpArgs false
namespace Go.Proofs.YtckjibiolfapiaaProducts
open Go Go.Zq
set_option maxHeartbeats 4000000

/-- Booth's digits. -/
def ds (v : Int) : List Int := [g163_0 v, g163_1 v, g163_2 v, g163_3 v, g163_4 v, g163_5 v, g163_6 v, g163_7 v, g163_8 v, g163_9 v, g163_10 v, g163_11 v, g163_12 v, g163_13 v, g163_14 v, g163_15 v]
theorem list45 (v : Int) : w45_0_0 70 [] v 0 0 = ri (ds v) := by kernel_rfl
theorem sb (a b : Int) : IntKind.wrap IntKind.i64 (a % 2 - b % 2) = a % 2 - b % 2 := by rw [IntKind.wrap_i64]; omega
theorem sb0 (b : Int) : IntKind.wrap IntKind.i64 (0 - b % 2) = 0 - b % 2 := by rw [IntKind.wrap_i64]; omega
/-- A digit is what the bit below is more than this. -/
theorem ds_eq (v : Int) : ds v = [0 - (v / 1) % 2, (v / 1) % 2 - (v / 2) % 2, (v / 2) % 2 - (v / 4) % 2, (v / 4) % 2 - (v / 8) % 2, (v / 8) % 2 - (v / 16) % 2, (v / 16) % 2 - (v / 32) % 2, (v / 32) % 2 - (v / 64) % 2, (v / 64) % 2 - (v / 128) % 2,
    (v / 128) % 2 - (v / 256) % 2, (v / 256) % 2 - (v / 512) % 2, (v / 512) % 2 - (v / 1024) % 2, (v / 1024) % 2 - (v / 2048) % 2, (v / 2048) % 2 - (v / 4096) % 2, (v / 4096) % 2 - (v / 8192) % 2, (v / 8192) % 2 - (v / 16384) % 2, (v / 16384) % 2 - (v / 32768) % 2] := by
  unfold ds g163_0 g163_1 g163_2 g163_3 g163_4 g163_5 g163_6 g163_7 g163_8 g163_9 g163_10 g163_11 g163_12 g163_13 g163_14 g163_15
  rw [bit_at v 1 (by decide), bit_at v 2 (by decide), bit_at v 4 (by decide), bit_at v 8 (by decide), bit_at v 16 (by decide), bit_at v 32 (by decide), bit_at v 64 (by decide), bit_at v 128 (by decide), bit_at v 256 (by decide), bit_at v 512 (by decide), bit_at v 1024 (by decide), bit_at v 2048 (by decide), bit_at v 4096 (by decide), bit_at v 8192 (by decide), bit_at v 16384 (by decide), bit_at v 32768 (by decide)]
  simp only [sb, sb0]

/-- Digits out of bits. -/
def dig (p : Int) : List Int → List Int
  | [] => []
  | b :: r => (p - b) :: dig b r
def bits (v : Int) : List Int := [(v / 1) % 2, (v / 2) % 2, (v / 4) % 2, (v / 8) % 2, (v / 16) % 2, (v / 32) % 2, (v / 64) % 2, (v / 128) % 2, (v / 256) % 2, (v / 512) % 2, (v / 1024) % 2, (v / 2048) % 2, (v / 4096) % 2, (v / 8192) % 2, (v / 16384) % 2, (v / 32768) % 2]
def isB (l : List Int) : Prop := ∀ b ∈ l, b = 0 ∨ b = 1
theorem bits_isB (v : Int) : isB (bits v) := by
  intro b hb
  simp only [bits, List.mem_cons, List.not_mem_nil, or_false] at hb
  rcases hb with h | h | h | h | h | h | h | h | h | h | h | h | h | h | h | h <;> (rw [h]; exact Int.emod_two_eq _)
theorem ds_dig (v : Int) : ds v = dig 0 (bits v) := by rw [ds_eq]; rfl
theorem dig_len : ∀ {l : List Int} {p : Int}, (dig p l).length = l.length
  | [], p => rfl
  | b :: r, p => by simp [dig, dig_len]

/-- The sum of digits by their powers. -/
def sumP (A P : Int) : List Int → Int
  | [] => 0
  | d :: r => A * P * d + sumP A (2 * P) r
theorem sumP_mul (A P : Int) : ∀ (l : List Int) (Q : Int), sumP (A * P) Q l = A * sumP P Q l
  | [], Q => by simp [sumP]
  | d :: r, Q => by
    rw [sumP, sumP, sumP_mul A P r, Int.mul_add, Int.mul_assoc A P Q, Int.mul_assoc A (P * Q) d]
/-- The value with its sign. -/
def sgn (v : Int) : Int := bif decide (v ≥ 32768) then v - 65536 else v
theorem sum_bits (v : Int) (h0 : 0 ≤ v) (h1 : v < 65536) : sumP 1 1 (ds v) = sgn v := by
  rw [ds_eq]
  simp only [sumP, Int.one_mul, Int.mul_one, Int.reduceMul, Int.add_zero]
  unfold sgn
  by_cases h : v ≥ 32768
  · simp only [h, decide_true, cond_true]
    omega
  · simp only [h, decide_false, cond_false]
    omega

theorem dig_mem : ∀ {l : List Int} {p : Int}, isB l → (p = 0 ∨ p = 1) → ∀ d ∈ dig p l, -1 ≤ d ∧ d ≤ 1
  | [], p, hl, hp, d, hd => by simp [dig] at hd
  | b :: r, p, hl, hp, d, hd => by
    have hb := hl b (List.mem_cons_self ..)
    simp only [dig, List.mem_cons] at hd
    rcases hd with rfl | hd
    · omega
    · exact dig_mem (fun x hx => hl x (List.mem_cons_of_mem _ hx)) hb d hd

theorem pow_nat (n : Nat) (h : n ≤ 15) : (1 : Int) ≤ 2 ^ n ∧ (2 : Int) ^ n ≤ 32768 := by
  have h1 : (1 : Nat) ≤ 2 ^ n := Nat.one_le_two_pow
  have h2 : (2 : Nat) ^ n ≤ 2 ^ 15 := Nat.pow_le_pow_right (by decide) h
  have e : ((2 : Int) ^ n) = ((2 ^ n : Nat) : Int) := by simp
  rw [e]
  omega

theorem len_mid (pre r : List Int) (d : Int) : (ri (pre ++ d :: r)).length = pre.length + (r.length + 1) := by simp [ri]

/-- The bound of a part of a sum. -/
theorem step_bound {A P d s : Int} (hA : -32768 ≤ A ∧ A ≤ 32768) (hP : 1 ≤ P ∧ P ≤ 32768) (hd : -1 ≤ d ∧ d ≤ 1) (hs : -(32768 * P) ≤ s ∧ s ≤ 32768 * P) :
    -1073741824 ≤ A * P ∧ A * P ≤ 1073741824 ∧ -1073741824 ≤ A * P * d ∧ A * P * d ≤ 1073741824 ∧ -(32768 * (2 * P)) ≤ s + A * P * d ∧ s + A * P * d ≤ 32768 * (2 * P) := by
  have h1 : A * P ≤ 32768 * P := Int.mul_le_mul_of_nonneg_right hA.2 (by omega)
  have h2 : -32768 * P ≤ A * P := Int.mul_le_mul_of_nonneg_right hA.1 (by omega)
  have h3 : A * P * d = A * P ∨ A * P * d = 0 ∨ A * P * d = -(A * P) := by
    have : d = 1 ∨ d = 0 ∨ d = -1 := by omega
    rcases this with rfl | rfl | rfl
    · left; omega
    · right; left; omega
    · right; right; omega
  generalize A * P * d = t at h3
  generalize A * P = u at h1 h2 h3
  omega

theorem l38 {a A : Int} (ha : g157_0 2 a = A) (hA : -32768 ≤ A ∧ A ≤ 32768) : ∀ (r pre : List Int) (s : Int) (m : Nat), (∀ d ∈ r, -1 ≤ d ∧ d ≤ 1) → pre.length + r.length = 16 → -(32768 * 2 ^ pre.length) ≤ s ∧ s ≤ 32768 * 2 ^ pre.length → r.length < m →
    L38_0 m (ri (pre ++ r)) a s 16 (pre.length : Int) = some (ri (pre ++ r), a, s + sumP A (2 ^ pre.length) r, 16, 16)
  | [], pre, s, m + 1, hd, hl, hs, hm => by
    simp only [List.length_nil, Nat.add_zero] at hl
    have e : ((pre.length : Nat) : Int) = 16 := by omega
    rw [e]
    simp [L38_0, y38_0, z38_0, sumP]
  | d :: r, pre, s, m + 1, hd, hl, hs, hm => by
    simp only [List.length_cons] at hl hm
    have hlt : ((pre.length : Nat) : Int) < 16 := by omega
    have hg : (pre ++ d :: r)[pre.length]? = some d := get_mid
    have e1 := ri_at hg
    have e2 := ri_has hg
    have hp := pow_nat pre.length (by omega)
    have hb := step_bound hA hp (hd d (List.mem_cons_self ..)) hs
    have hw1 : IntKind.wrap IntKind.i64 (A * 2 ^ pre.length) = A * 2 ^ pre.length := by rw [IntKind.wrap_i64]; omega
    have hw2 : IntKind.wrap IntKind.i64 (A * 2 ^ pre.length * d) = A * 2 ^ pre.length * d := by rw [IntKind.wrap_i64]; omega
    have hw3 : IntKind.wrap IntKind.i64 (s + A * 2 ^ pre.length * d) = s + A * 2 ^ pre.length * d := by rw [IntKind.wrap_i64]; omega
    have hw4 : IntKind.wrap IntKind.i64 ((pre.length : Int) + 1) = ((pre ++ [d]).length : Int) := by rw [IntKind.wrap_i64, List.length_append]; simp only [List.length_cons, List.length_nil]; omega
    have hy : y38_0 (ri (pre ++ d :: r)) a s 16 (pre.length : Int) = true := by
      simp only [y38_0, Nat.zero_add, Int.toNat_natCast, e2, len_mid]
      simp
      omega
    have hz : z38_0 (ri (pre ++ d :: r)) a s 16 (pre.length : Int) = false := by
      simp only [z38_0, hlt, decide_true, Bool.not_true, Bool.or_false]
    have ih := l38 ha hA r (pre ++ [d]) (s + A * 2 ^ pre.length * d) m (fun x hx => hd x (List.mem_cons_of_mem _ hx)) (by simp; omega) (by
      rw [List.length_append, List.length_cons, List.length_nil, Nat.zero_add, Int.pow_succ, Int.mul_comm (2 ^ pre.length) 2]
      exact ⟨hb.2.2.2.2.1, hb.2.2.2.2.2⟩) (by omega)
    rw [L38_0, hy, hz, cond_true, cond_false, ha, Int.toNat_natCast, Nat.min_eq_left (by omega : pre.length ≤ 64), Nat.zero_add, e1, hw1, hw2, hw3, hw4]
    have e3 : pre ++ d :: r = (pre ++ [d]) ++ r := by simp
    rw [e3, ih]
    congr 2
    rw [List.length_append, List.length_cons, List.length_nil, Nat.zero_add, Int.pow_succ, Int.mul_comm (2 ^ pre.length) 2, sumP]
    simp only [Prod.mk.injEq, and_true, true_and]
    omega

theorem l39 {a A : Int} (ha : g164_0 a = A) (hA : -32768 ≤ A ∧ A ≤ 32768) : ∀ (r pre : List Int) (s : Int) (m : Nat), (∀ d ∈ r, -1 ≤ d ∧ d ≤ 1) → pre.length + r.length = 16 → -(32768 * 2 ^ pre.length) ≤ s ∧ s ≤ 32768 * 2 ^ pre.length → r.length < m →
    L39_0 m (ri (pre ++ r)) a s 16 (pre.length : Int) = some (ri (pre ++ r), a, s + sumP A (2 ^ pre.length) r, 16, 16)
  | [], pre, s, m + 1, hd, hl, hs, hm => by
    simp only [List.length_nil, Nat.add_zero] at hl
    have e : ((pre.length : Nat) : Int) = 16 := by omega
    rw [e]
    simp [L39_0, y39_0, z39_0, sumP]
  | d :: r, pre, s, m + 1, hd, hl, hs, hm => by
    simp only [List.length_cons] at hl hm
    have hlt : ((pre.length : Nat) : Int) < 16 := by omega
    have hg : (pre ++ d :: r)[pre.length]? = some d := get_mid
    have e1 := ri_at hg
    have e2 := ri_has hg
    have hp := pow_nat pre.length (by omega)
    have hd1 := hd d (List.mem_cons_self ..)
    have hb := step_bound hA hp hd1 hs
    have hc : d * A * 2 ^ pre.length = A * 2 ^ pre.length * d := by rw [Int.mul_comm d A, Int.mul_assoc, Int.mul_assoc, Int.mul_comm d]
    have hda : -32768 ≤ d * A ∧ d * A ≤ 32768 := by
      have : d = 1 ∨ d = 0 ∨ d = -1 := by omega
      rcases this with rfl | rfl | rfl <;> omega
    have hw1 : IntKind.wrap IntKind.i64 (d * A) = d * A := by rw [IntKind.wrap_i64]; omega
    have hw2 : IntKind.wrap IntKind.i64 (A * 2 ^ pre.length * d) = A * 2 ^ pre.length * d := by rw [IntKind.wrap_i64]; omega
    have hw3 : IntKind.wrap IntKind.i64 (s + A * 2 ^ pre.length * d) = s + A * 2 ^ pre.length * d := by rw [IntKind.wrap_i64]; omega
    have hw4 : IntKind.wrap IntKind.i64 ((pre.length : Int) + 1) = ((pre ++ [d]).length : Int) := by rw [IntKind.wrap_i64, List.length_append]; simp only [List.length_cons, List.length_nil]; omega
    have hw5 : IntKind.wrap IntKind.u64 (pre.length : Int) = (pre.length : Int) := by
      have : IntKind.u64.wrap (pre.length : Int) = (pre.length : Int) % 18446744073709551616 := by simp [IntKind.wrap, IntKind.bits, IntKind.signed]
      rw [this]; omega
    have hy : y39_0 (ri (pre ++ d :: r)) a s 16 (pre.length : Int) = true := by
      simp only [y39_0, Nat.zero_add, Int.toNat_natCast, e2, len_mid]
      simp
      omega
    have hz : z39_0 (ri (pre ++ d :: r)) a s 16 (pre.length : Int) = false := by
      simp only [z39_0, hlt, decide_true, Bool.not_true, Bool.or_false]
    have ih := l39 ha hA r (pre ++ [d]) (s + A * 2 ^ pre.length * d) m (fun x hx => hd x (List.mem_cons_of_mem _ hx)) (by simp; omega) (by
      rw [List.length_append, List.length_cons, List.length_nil, Nat.zero_add, Int.pow_succ, Int.mul_comm (2 ^ pre.length) 2]
      exact ⟨hb.2.2.2.2.1, hb.2.2.2.2.2⟩) (by omega)
    rw [L39_0, hy, hz, cond_true, cond_false, ha, hw5, Int.toNat_natCast, Nat.min_eq_left (by omega : pre.length ≤ 64), Nat.zero_add, e1, hw1, hc, hw2, hw3, hw4]
    have e3 : pre ++ d :: r = (pre ++ [d]) ++ r := by simp
    rw [e3, ih]
    congr 2
    rw [List.length_append, List.length_cons, List.length_nil, Nat.zero_add, Int.pow_succ, Int.mul_comm (2 ^ pre.length) 2, sumP]
    simp only [Prod.mk.injEq, and_true, true_and]
    omega

/-- A list is the same as itself. -/
theorem l47 (p q : Bool) : ∀ (r pre : List Int) (m : Nat), (pre ++ r).length < 4611686018427387904 → r.length < m →
    L47_0 m p (ri (pre ++ r)) q (ri (pre ++ r)) ((pre ++ r).length : Int) (pre.length : Int) = some (p, ri (pre ++ r), q, ri (pre ++ r), ((pre ++ r).length : Int), ((pre ++ r).length : Int))
  | [], pre, m + 1, hl, hm => by
    simp [L47_0, y47_0, z47_0]
  | d :: r, pre, m + 1, hl, hm => by
    have hlt : ((pre.length : Nat) : Int) < ((pre ++ d :: r).length : Int) := by simp; omega
    have hg : (pre ++ d :: r)[pre.length]? = some d := get_mid
    have e1 := ri_at hg
    have e2 := ri_in hg
    have hw4 : IntKind.wrap IntKind.i64 ((pre.length : Int) + 1) = ((pre ++ [d]).length : Int) := by
      rw [IntKind.wrap_i64, List.length_append]; simp only [List.length_append, List.length_cons, List.length_nil] at *; omega
    have hy : y47_0 p (ri (pre ++ d :: r)) q (ri (pre ++ d :: r)) ((pre ++ d :: r).length : Int) (pre.length : Int) = true := by
      simp only [y47_0, e2, Bool.and_self, Bool.true_or]
    have hz : z47_0 p (ri (pre ++ d :: r)) q (ri (pre ++ d :: r)) ((pre ++ d :: r).length : Int) (pre.length : Int) = false := by
      simp only [z47_0, hlt, decide_true, Bool.not_true, Bool.or_false, bne_self_eq_false]
    have e3 : pre ++ d :: r = (pre ++ [d]) ++ r := by simp
    have ih := l47 p q r (pre ++ [d]) m (by rw [← e3]; exact hl) (by simp only [List.length_cons] at hm; omega)
    rw [L47_0, hy, hz, cond_true, cond_false, hw4]
    rw [← e3] at ih
    exact ih
theorem same_ints (p q : Bool) (l : List Int) (h : l.length < 4611686018427387904) : g47_0 p (ri l) q (ri l) = true ∧ Option.isSome (L47_0 (List.length (ri l) + 1) p (ri l) q (ri l) (↑(List.length (ri l)) : Int) 0) = true := by
  have e := l47 p q l [] (List.length (ri l) + 1) (by simpa using h) (by rw [ri_len]; omega)
  simp only [List.nil_append, List.length_nil] at e
  have e' : L47_0 (List.length (ri l) + 1) p (ri l) q (ri l) (↑(List.length (ri l)) : Int) 0 = some (p, ri l, q, ri l, (l.length : Int), (l.length : Int)) := by
    rw [ri_len] at e ⊢
    exact e
  constructor
  · unfold g47_0
    simp only [w47_0_1, w47_0_3, w47_0_4, w47_0_5, e', Option.getD_some, bne_self_eq_false, cond_false, Bool.false_and, Bool.not_false]
  · rw [e']; rfl
/-- The law's own loop: no two digits alike follow each other but 0. -/
theorem l5 (n : Int) : ∀ (r pre : List Int) (p last s : Int) (m : Nat), isB r → (p = 0 ∧ (last = 0 ∨ last = 1) ∨ p = 1 ∧ last = -1) → pre.length + r.length = 16 → -(32768 * 2 ^ pre.length) ≤ s ∧ s ≤ 32768 * 2 ^ pre.length → r.length < m →
    ∃ la, L5_0 m (ri (pre ++ dig p r)) n s (2 ^ pre.length) last 16 (pre.length : Int) = some (ri (pre ++ dig p r), n, s + sumP 1 (2 ^ pre.length) (dig p r), 65536, la, 16, 16)
  | [], pre, p, last, s, m + 1, hb, hp, hl, hs, hm => by
    simp only [List.length_nil, Nat.add_zero] at hl
    have e : ((pre.length : Nat) : Int) = 16 := by omega
    refine ⟨last, ?_⟩
    rw [e, hl]
    simp [L5_0, y5_0, z5_0, sumP, dig]
  | b :: r, pre, p, last, s, m + 1, hb, hp, hl, hs, hm => by
    simp only [List.length_cons] at hl hm
    have hbb := hb b (List.mem_cons_self ..)
    have hlt : ((pre.length : Nat) : Int) < 16 := by omega
    have hg : (pre ++ (p - b) :: dig b r)[pre.length]? = some (p - b) := get_mid
    have e1 := ri_at hg
    have e2 := ri_has hg
    have hpw := pow_nat pre.length (by omega)
    have hb1 := step_bound (A := 1) (d := p - b) (by decide) hpw (by omega) hs
    simp only [Int.one_mul] at hb1
    have hc : (p - b) * 2 ^ pre.length = 2 ^ pre.length * (p - b) := Int.mul_comm _ _
    have hw2 : IntKind.wrap IntKind.i64 (2 ^ pre.length * (p - b)) = 2 ^ pre.length * (p - b) := by rw [IntKind.wrap_i64]; omega
    have hw3 : IntKind.wrap IntKind.i64 (s + 2 ^ pre.length * (p - b)) = s + 2 ^ pre.length * (p - b) := by rw [IntKind.wrap_i64]; omega
    have hw1 : IntKind.wrap IntKind.i64 (2 ^ pre.length * 2) = 2 ^ (pre ++ [p - b]).length := by rw [IntKind.wrap_i64, List.length_append, List.length_cons, List.length_nil, Nat.zero_add, Int.pow_succ]; omega
    have hw4 : IntKind.wrap IntKind.i64 ((pre.length : Int) + 1) = ((pre ++ [p - b]).length : Int) := by rw [IntKind.wrap_i64, List.length_append]; simp only [List.length_cons, List.length_nil]; omega
    have hy : y5_0 (ri (pre ++ (p - b) :: dig b r)) n s (2 ^ pre.length) last 16 (pre.length : Int) = true := by
      simp only [y5_0, Nat.zero_add, Int.toNat_natCast, e2, len_mid]
      simp
      omega
    have hz : z5_0 (ri (pre ++ (p - b) :: dig b r)) n s (2 ^ pre.length) last 16 (pre.length : Int) = false := by
      simp only [z5_0, hlt, decide_true, Bool.not_true, Bool.or_false, Nat.zero_add, Int.toNat_natCast, e1, Bool.false_or]
      rw [Bool.and_eq_false_iff, beq_eq_false_iff_ne, bne_eq_false_iff_eq]
      omega
    have e3 : pre ++ (p - b) :: dig b r = (pre ++ [p - b]) ++ dig b r := by simp
    obtain ⟨la, ih⟩ := l5 n r (pre ++ [p - b]) b (bif p - b != 0 then p - b else last) (s + 2 ^ pre.length * (p - b)) m (fun x hx => hb x (List.mem_cons_of_mem _ hx)) (by
      by_cases h : p - b = 0
      · rw [h]
        simp only [bne_self_eq_false, cond_false]
        omega
      · have : (p - b != 0) = true := by rw [bne_iff_ne]; exact h
        rw [this, cond_true]
        omega) (by simp; omega) (by
      rw [List.length_append, List.length_cons, List.length_nil, Nat.zero_add, Int.pow_succ, Int.mul_comm (2 ^ pre.length) 2]
      exact ⟨hb1.2.2.2.2.1, hb1.2.2.2.2.2⟩) (by omega)
    refine ⟨la, ?_⟩
    rw [dig, L5_0, hy, hz, cond_true, cond_false, Int.toNat_natCast, Nat.zero_add, e1, hc, hw2, hw3, hw1, hw4, e3, ih]
    congr 2
    rw [List.length_append, List.length_cons, List.length_nil, Nat.zero_add, Int.pow_succ, Int.mul_comm (2 ^ pre.length) 2, sumP, Int.one_mul]
    simp only [Prod.mk.injEq, and_true, true_and]
    omega

theorem w160 (v : Int) : g160_0 v = true ↔ 0 ≤ v ∧ v ≤ 65535 := by
  simp [g160_0, g142_0]
theorem g45 {v : Int} (h : g160_0 v = true) : g45_1 v = ri (ds v) := by
  unfold g45_1
  rw [h, list45]
  rfl
theorem g46 {v : Int} (h : g160_0 v = true) : g46_1 v = ri (ds v) := by
  unfold g46_1
  have : g162_0 v = g160_0 v := rfl
  rw [this, h]
  rfl
theorem top2 : g218_0 2 = 65536 ∧ g220_0 2 = 65536 := by decide +kernel
theorem s157 (v : Int) (h0 : 0 ≤ v) (h1 : v ≤ 65535) : g157_0 2 v = sgn v := by
  unfold g157_0 sgn
  rw [top2.1]
  have e : IntKind.wrap IntKind.i64 (Int.tdiv 65536 2) = 32768 := by decide
  have e2 : IntKind.wrap IntKind.i64 (v - 65536) = v - 65536 := by rw [IntKind.wrap_i64]; omega
  rw [e, e2]
theorem s164 (v : Int) (h0 : 0 ≤ v) (h1 : v ≤ 65535) : g164_0 v = sgn v := by
  unfold g164_0 g182_0 sgn
  rw [top2.2]
  have e : IntKind.wrap IntKind.i64 (Int.tdiv 65536 2) = 32768 := by decide
  have e2 : IntKind.wrap IntKind.i64 (v - 65536) = v - 65536 := by rw [IntKind.wrap_i64]; omega
  rw [e, e2]
theorem sgn_rng (v : Int) (h0 : 0 ≤ v) (h1 : v ≤ 65535) : -32768 ≤ sgn v ∧ sgn v ≤ 32768 := by
  unfold sgn
  by_cases h : v ≥ 32768
  · simp only [h, decide_true, cond_true]; omega
  · simp only [h, decide_false, cond_false]; omega
theorem sgn_mod (v : Int) (h0 : 0 ≤ v) (h1 : v ≤ 65535) : sgn v % 65536 = v % 65536 := by
  unfold sgn
  by_cases h : v ≥ 32768
  · simp only [h, decide_true, cond_true]; omega
  · simp only [h, decide_false, cond_false]

theorem ds_rng (v : Int) : ∀ d ∈ ds v, -1 ≤ d ∧ d ≤ 1 := by
  rw [ds_dig]
  exact dig_mem (bits_isB v) (.inl rfl)

theorem run38 (a b : Int) (ha0 : 0 ≤ a) (ha1 : a ≤ 65535) (hb0 : 0 ≤ b) (hb1 : b ≤ 65535) : L38_0 70 (ri (ds b)) a 0 16 0 = some (ri (ds b), a, sgn a * sgn b, 16, 16) := by
  have e := l38 (s157 a ha0 ha1) (sgn_rng a ha0 ha1) (ds b) [] 0 70 (ds_rng b) rfl (by simp) (by show 16 < 70; decide)
  simp only [List.nil_append, List.length_nil, Int.pow_zero, Int.zero_add] at e
  have e2 := sumP_mul (sgn a) 1 (ds b) 1
  rw [Int.mul_one, sum_bits b hb0 (by omega)] at e2
  rw [e2] at e
  exact e
theorem run39 (a b : Int) (ha0 : 0 ≤ a) (ha1 : a ≤ 65535) (hb0 : 0 ≤ b) (hb1 : b ≤ 65535) : L39_0 70 (ri (ds b)) a 0 16 0 = some (ri (ds b), a, sgn a * sgn b, 16, 16) := by
  have e := l39 (s164 a ha0 ha1) (sgn_rng a ha0 ha1) (ds b) [] 0 70 (ds_rng b) rfl (by simp) (by show 16 < 70; decide)
  simp only [List.nil_append, List.length_nil, Int.pow_zero, Int.zero_add] at e
  have e2 := sumP_mul (sgn a) 1 (ds b) 1
  rw [Int.mul_one, sum_bits b hb0 (by omega)] at e2
  rw [e2] at e
  exact e
theorem run5 (n : Int) (h0 : 0 ≤ n) (h1 : n ≤ 65535) : ∃ la, L5_0 70 (ri (ds n)) n 0 1 0 16 0 = some (ri (ds n), n, sgn n, 65536, la, 16, 16) := by
  obtain ⟨la, e⟩ := l5 n (bits n) [] 0 0 0 70 (bits_isB n) (.inl ⟨rfl, .inl rfl⟩) rfl (by simp) (by show 16 < 70; decide)
  rw [← ds_dig] at e
  simp only [List.nil_append, List.length_nil, Int.pow_zero, Int.zero_add] at e
  rw [sum_bits n h0 (by omega)] at e
  exact ⟨la, e⟩
theorem len_ds (v : Int) : (List.length (ri (ds v)) : Int) = 16 := by rw [ri_len]; rfl

/-- The two halves of a number of 32 bits. -/
theorem high_eq (z : Int) : g161_0 z = (z / 65536) % 65536 := by
  unfold g161_0
  have := mask_at (Int.fdiv z 65536) 16 (by decide)
  simp only [Int.reducePow, Int.reduceSub] at this
  rw [this, Int.fdiv_eq_ediv_of_nonneg _ (by decide)]
theorem low_eq (z : Int) : g161_1 z = z % 65536 := by
  unfold g161_1
  have := mask_at z 16 (by decide)
  simpa only [Int.reducePow, Int.reduceSub] using this

theorem mul_rng {a b : Int} (ha0 : 0 ≤ a) (ha1 : a ≤ 65535) (hb0 : 0 ≤ b) (hb1 : b ≤ 65535) : 0 ≤ a * b ∧ a * b ≤ 4294836225 := by
  refine ⟨Int.mul_nonneg ha0 hb0, ?_⟩
  have h1 : a * b ≤ 65535 * b := Int.mul_le_mul_of_nonneg_right ha1 hb0
  omega
theorem smul_rng {A B : Int} (ha : -32768 ≤ A ∧ A ≤ 32768) (hb : -32768 ≤ B ∧ B ≤ 32768) : -1073741824 ≤ A * B ∧ A * B ≤ 1073741824 := by
  by_cases h : 0 ≤ B
  · have h1 : A * B ≤ 32768 * B := Int.mul_le_mul_of_nonneg_right ha.2 h
    have h2 : -32768 * B ≤ A * B := Int.mul_le_mul_of_nonneg_right ha.1 h
    omega
  · have h1 : A * (-B) ≤ 32768 * (-B) := Int.mul_le_mul_of_nonneg_right ha.2 (by omega)
    have h2 : -32768 * (-B) ≤ A * (-B) := Int.mul_le_mul_of_nonneg_right ha.1 (by omega)
    have hn : A * (-B) = -(A * B) := Int.mul_neg A B
    rw [hn] at h1 h2
    omega

/-- The multipliers. -/
structure Muls (a b : Int) : Prop where
  h38 : g38_0 a b = g161_0 (sgn a * sgn b)
  l38 : g38_1 a b = g161_1 (sgn a * sgn b)
  h39 : g39_0 a b = g38_0 a b
  l39 : g39_1 a b = g38_1 a b
  h40 : g40_0 a b = g38_0 a b
  l40 : g40_1 a b = g38_1 a b
  h41 : g41_0 a b = g38_0 a b
  l41 : g41_1 a b = g38_1 a b
  h42 : g42_0 a b = a * b / 65536
  l42 : g42_1 a b = a * b % 65536
  h43 : g43_0 a b = g42_0 a b
  l43 : g43_1 a b = g42_1 a b
  low : g38_1 a b = g42_1 a b
theorem muls {a b : Int} (ha : g160_0 a = true) (hb : g160_0 b = true) : Muls a b := by
  have ha' := (w160 a).1 ha
  have hb' := (w160 b).1 hb
  have ha2 : g162_0 a = true := ha
  have hb2 : g162_0 b = true := hb
  have r38 := run38 a b ha'.1 ha'.2 hb'.1 hb'.2
  have r39 := run39 a b ha'.1 ha'.2 hb'.1 hb'.2
  have mm := mul_rng ha'.1 ha'.2 hb'.1 hb'.2
  have ss := smul_rng (sgn_rng a ha'.1 ha'.2) (sgn_rng b hb'.1 hb'.2)
  have k38 : g38_0 a b = g161_0 (sgn a * sgn b) := by
    unfold g38_0
    rw [ha, hb, g45 hb, len_ds]
    simp only [Bool.not_true, cond_false, w38_0_2, r38, Option.getD_some]
  have k38l : g38_1 a b = g161_1 (sgn a * sgn b) := by
    unfold g38_1
    rw [ha, hb, g45 hb, len_ds]
    simp only [Bool.not_true, cond_false, w38_0_2, r38, Option.getD_some]
  have e40 : IntKind.wrap IntKind.i64 (g157_0 2 a * g157_0 2 b) = sgn a * sgn b := by
    rw [s157 a ha'.1 ha'.2, s157 b hb'.1 hb'.2, IntKind.wrap_i64]; omega
  have e41 : IntKind.wrap IntKind.i64 (g164_0 a * g164_0 b) = sgn a * sgn b := by
    rw [s164 a ha'.1 ha'.2, s164 b hb'.1 hb'.2, IntKind.wrap_i64]; omega
  have e42 : IntKind.wrap IntKind.i64 (a * b) = a * b := by rw [IntKind.wrap_i64]; omega
  have k42 : g42_0 a b = a * b / 65536 := by
    unfold g42_0
    rw [ha, hb]
    simp only [Bool.not_true, cond_false, e42, high_eq]
    omega
  have k42l : g42_1 a b = a * b % 65536 := by
    unfold g42_1
    rw [ha, hb]
    simp only [Bool.not_true, cond_false, e42, low_eq]
  refine ⟨k38, k38l, ?_, ?_, ?_, ?_, ?_, ?_, k42, k42l, ?_, ?_, ?_⟩
  · rw [k38]
    unfold g39_0
    rw [ha2, hb2]
    show g165_0 (w39_0_2 70 (ri (ds b)) a 0 16 0) = _
    simp only [w39_0_2, r39, Option.getD_some]
    rfl
  · rw [k38l]
    unfold g39_1
    rw [ha2, hb2]
    show g165_1 (w39_0_2 70 (ri (ds b)) a 0 16 0) = _
    simp only [w39_0_2, r39, Option.getD_some]
    rfl
  · rw [k38]
    unfold g40_0
    rw [ha, hb, e40]
    rfl
  · rw [k38l]
    unfold g40_1
    rw [ha, hb, e40]
    rfl
  · rw [k38]
    unfold g41_0
    rw [ha2, hb2, e41]
    rfl
  · rw [k38l]
    unfold g41_1
    rw [ha2, hb2, e41]
    rfl
  · rw [k42]
    unfold g43_0
    rw [ha2, hb2, e42, Int.fdiv_eq_ediv_of_nonneg _ (by decide)]
    rfl
  · rw [k42l]
    unfold g43_1
    rw [ha2, hb2, e42]
    have : g161_1 (a * b) = a * b % 65536 := low_eq _
    unfold g161_1 at this
    rw [this]
    rfl
  · rw [k38l, k42l, low_eq, Int.mul_emod, sgn_mod a ha'.1 ha'.2, sgn_mod b hb'.1 hb'.2, ← Int.mul_emod]

theorem pure5 (x0 x1 : List Row) : g5_0 x0 x1 = true := by
  unfold g5_0
  generalize g159_0 x0 = a
  generalize g159_1 x0 = b
  generalize g44_0 x1 = n
  have e162 : ∀ v, g162_0 v = g160_0 v := fun _ => rfl
  -- the digits
  have hdig : g47_0 false (g45_1 n) false (g46_1 n) = true := by
    cases h : g160_0 n
    · have h1 : g45_1 n = ri [] := by unfold g45_1; rw [h]; rfl
      have h2 : g46_1 n = ri [] := by unfold g46_1; rw [e162, h]; rfl
      rw [h1, h2]
      exact (same_ints false false [] (by decide)).1
    · rw [g45 h, g46 h]
      exact (same_ints false false (ds n) (by show 16 < _; decide)).1
  rw [hdig]
  have hsums : (bif bif !g160_0 a then true else !g160_0 b then (0 : Int) else 0) = 0 := by cases (bif !g160_0 a then true else !g160_0 b) <;> rfl
  have hfirst : (bif bif bif bif bif bif bif bif bif !g38_2 a b == g39_2 a b then true else g38_0 a b != g39_0 a b then true else g38_1 a b != g39_1 a b then true else !g40_2 a b == g41_2 a b then true else g40_0 a b != g41_0 a b then true else g40_1 a b != g41_1 a b then true else !g42_2 a b == g43_2 a b then true else g42_0 a b != g43_0 a b then true else g42_1 a b != g43_1 a b then false else
      !(bif g38_2 a b then bif bif bif bif bif !g40_2 a b then true else !g42_2 a b then true else g38_0 a b != g40_0 a b then true else g38_1 a b != g40_1 a b then true else IntKind.wrap IntKind.i64 (IntKind.wrap IntKind.i64 (g42_0 a b * (65536 : Int)) + g42_1 a b) != IntKind.wrap IntKind.i64 (a * b) then true else g38_1 a b != g42_1 a b else false)) = true := by
    have e1 : g39_2 a b = g38_2 a b := rfl
    have e2 : g41_2 a b = g38_2 a b := rfl
    have e3 : g43_2 a b = g38_2 a b := rfl
    have e4 : g40_2 a b = g38_2 a b := rfl
    have e5 : g42_2 a b = g38_2 a b := rfl
    rw [e1, e2, e3, e4, e5]
    cases hok : g38_2 a b
    · have hb' : (bif !g160_0 a then true else !g160_0 b) = true := by
        unfold g38_2 at hok
        cases ha : g160_0 a <;> cases hb : g160_0 b <;> simp_all
      have hb2 : (bif !g162_0 a then true else !g162_0 b) = true := hb'
      simp [g38_0, g38_1, g39_0, g39_1, g40_0, g40_1, g41_0, g41_1, g42_0, g42_1, g43_0, g43_1, hb', hb2]
    · have hb' : g160_0 a = true ∧ g160_0 b = true := by
        unfold g38_2 at hok
        cases ha : g160_0 a <;> cases hb : g160_0 b <;> simp_all
      have M := muls hb'.1 hb'.2
      have ha' := (w160 a).1 hb'.1
      have hbb := (w160 b).1 hb'.2
      have mm := mul_rng ha'.1 ha'.2 hbb.1 hbb.2
      have e6 : IntKind.wrap IntKind.i64 (IntKind.wrap IntKind.i64 (a * b / 65536 * 65536) + a * b % 65536) = a * b := by
        simp only [IntKind.wrap_i64]; omega
      have e7 : IntKind.wrap IntKind.i64 (a * b) = a * b := by rw [IntKind.wrap_i64]; omega
      rw [M.h39, M.l39, M.h41, M.l41, M.h40, M.l40, M.h43, M.l43, M.low, M.h42, M.l42, e6, e7]
      simp
  have hlast : (bif intAt (w5_0_0 (70 : Nat) (g45_1 n) n (0 : Int) (1 : Int) (0 : Int) (↑(List.length (g45_1 n)) : Int) (0 : Int)) ((0 : Nat) + Int.toNat (w5_0_6 (70 : Nat) (g45_1 n) n (0 : Int) (1 : Int) (0 : Int) (↑(List.length (g45_1 n)) : Int) (0 : Int))) (0 : Nat) == w5_0_4 (70 : Nat) (g45_1 n) n (0 : Int) (1 : Int) (0 : Int) (↑(List.length (g45_1 n)) : Int) (0 : Int) && intAt (w5_0_0 (70 : Nat) (g45_1 n) n (0 : Int) (1 : Int) (0 : Int) (↑(List.length (g45_1 n)) : Int) (0 : Int)) ((0 : Nat) + Int.toNat (w5_0_6 (70 : Nat) (g45_1 n) n (0 : Int) (1 : Int) (0 : Int) (↑(List.length (g45_1 n)) : Int) (0 : Int))) (0 : Nat) != (0 : Int) && decide (w5_0_6 (70 : Nat) (g45_1 n) n (0 : Int) (1 : Int) (0 : Int) (↑(List.length (g45_1 n)) : Int) (0 : Int) < w5_0_5 (70 : Nat) (g45_1 n) n (0 : Int) (1 : Int) (0 : Int) (↑(List.length (g45_1 n)) : Int) (0 : Int)) && g160_0 n then false else bif g160_0 n then bif bif g151_0 (2 : Int) (w5_0_1 (70 : Nat) (g45_1 n) n (0 : Int) (1 : Int) (0 : Int) (↑(List.length (g45_1 n)) : Int) (0 : Int)) then w5_0_2 (70 : Nat) (g45_1 n) n (0 : Int) (1 : Int) (0 : Int) (↑(List.length (g45_1 n)) : Int) (0 : Int) == g33_0 (2 : Int) (w5_0_1 (70 : Nat) (g45_1 n) n (0 : Int) (1 : Int) (0 : Int) (↑(List.length (g45_1 n)) : Int) (0 : Int)) else false then (↑(List.length (w5_0_0 (70 : Nat) (g45_1 n) n (0 : Int) (1 : Int) (0 : Int) (↑(List.length (g45_1 n)) : Int) (0 : Int))) : Int) == (16 : Int) else false else true) = true := by
    cases h : g160_0 n
    · simp
    · have hn := (w160 n).1 h
      obtain ⟨la, e⟩ := run5 n hn.1 hn.2
      rw [g45 h, len_ds]
      have h151 : g151_0 2 n = true := by
        unfold g151_0
        rw [top2.1]
        have e1 : g198_0 2 = true := rfl
        have e2 : IntKind.wrap IntKind.i64 (65536 - 1) = 65535 := by decide
        rw [e1, e2]
        exact h
      have h33 : g33_0 2 n = sgn n := by
        unfold g33_0
        rw [h151, s157 n hn.1 hn.2]
        rfl
      simp only [w5_0_0, w5_0_1, w5_0_2, w5_0_4, w5_0_5, w5_0_6, e, Option.getD_some, h151, h33, len_ds]
      simp
  have hmix : ∀ p q r : Bool, (bif p then false else !q) = true → (bif p then false else bif q then false else r) = r := by
    intro p q r h
    cases p <;> cases q <;> simp_all
  rw [hmix _ _ _ hfirst, e162]
  simp only [beq_self_eq_true, Bool.not_true, cond_false]
  rw [hlast]
  simp
theorem okL (x0 x1 : List Row) (h0 : bytesOk x0 = true) (h1 : bytesOk x1 = true) : ∃ ok, q5 [.one (.imm true 1 x0), .one (.imm true 1 x1)] [] = some ((SV.one (T.lit (Value.bool (g5_0 x0 x1))), []), ok) ∧ ok = true := by
  refine ⟨_, rfl, ?_⟩
  rw [h0, h1]
  generalize g159_0 x0 = a
  generalize g159_1 x0 = b
  generalize g44_0 x1 = n
  have e162 : ∀ v, g162_0 v = g160_0 v := fun _ => rfl
  have c1 : (Option.isSome (L38_0 70 (g45_1 b) a 0 (↑(List.length (g45_1 b)) : Int) 0) || bif !g160_0 a then true else !g160_0 b) = true := by
    cases ha : g160_0 a
    · simp
    · cases hb : g160_0 b
      · simp
      · have ha' := (w160 a).1 ha
        have hb' := (w160 b).1 hb
        rw [g45 hb, len_ds, run38 a b ha'.1 ha'.2 hb'.1 hb'.2]
        rfl
  have c2 : Option.isSome (L47_0 (List.length (g45_1 n) + 1) false (g45_1 n) false (g46_1 n) (↑(List.length (g45_1 n)) : Int) 0) = true := by
    cases h : g160_0 n
    · have h1 : g45_1 n = ri [] := by unfold g45_1; rw [h]; rfl
      have h2 : g46_1 n = ri [] := by unfold g46_1; rw [e162, h]; rfl
      rw [h1, h2]
      exact (same_ints false false [] (by decide)).2
    · rw [g45 h, g46 h]
      exact (same_ints false false (ds n) (by show 16 < _; decide)).2
  have c3 : (Option.isSome (L5_0 70 (g45_1 n) n 0 1 0 (↑(List.length (g45_1 n)) : Int) 0) || !g160_0 n) = true := by
    cases h : g160_0 n
    · simp
    · have hn := (w160 n).1 h
      obtain ⟨la, e⟩ := run5 n hn.1 hn.2
      rw [g45 h, len_ds, e]
      rfl
  simp only [c1, c2, c3, Bool.true_or, Bool.and_self, Bool.true_and]
end Go.Proofs.YtckjibiolfapiaaProducts
