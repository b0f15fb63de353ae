/- Digits of decimal numbers: the plain law. -/
import Derived.Test.YtckjibiolfapiaaZqDigitsQ
import Derived.Test.YtckjibiolfapiaaZqList
set_option linter.unusedVariables false
set_option linter.unusedSimpArgs false
namespace Go.Proofs.YtckjibiolfapiaaDigits
open Go Go.Zq
set_option maxHeartbeats 4000000

theorem and15 (v : Int) : ((BitVec.ofInt 64 v &&& BitVec.ofInt 64 15).toNat : Int) = v % 16 := by
  rw [BitVec.toNat_and, BitVec.toNat_ofInt, BitVec.toNat_ofInt]
  have h : ((15 : Int) % ((2 ^ 64 : Nat) : Int)).toNat = 2 ^ 4 - 1 := by decide
  rw [h, Nat.and_two_pow_sub_one_eq_mod]
  omega
theorem low15 (v : Int) : IntKind.wrap IntKind.i64 ↑(BitVec.toNat (BitVec.ofInt (64 : Nat) v &&& BitVec.ofInt (64 : Nat) (15 : Int))) = v % 16 := by
  rw [and15, IntKind.wrap_i64]
  omega
theorem fd16 (v : Int) : v.fdiv 16 = v / 16 := Int.fdiv_eq_ediv_of_nonneg _ (by decide)

theorem L142 (v a b : Int) : g142_0 v a b = true ↔ a ≤ v ∧ v ≤ b := by
  simp [g142_0]
theorem L24 (v : Int) : g24_0 v = true ↔ 0 ≤ v ∧ v ≤ 153 ∧ v % 16 ≤ 9 := by
  unfold g24_0
  rw [low15]
  cases h : g142_0 v 0 153
  · simp only [cond_false, Bool.false_eq_true, false_iff]
    intro k
    have := (L142 v 0 153).2 ⟨k.1, k.2.1⟩
    simp [h] at this
  · simp only [cond_true, decide_eq_true_eq]
    have := (L142 v 0 153).1 h
    omega
theorem L146 (v : Int) : g146_0 v = g24_0 v := by
  rw [Bool.eq_iff_iff, L24]
  unfold g146_0
  rw [low15]
  rw [fd16]
  simp only [g144_0, Bool.cond_false_right, Bool.and_eq_true, decide_eq_true_eq]
  omega
theorem L137 (v : Int) (h0 : 0 ≤ v) (h1 : v ≤ 255) : g137_0 v = v / 16 * 10 + v % 16 := by
  unfold g137_0
  rw [and15, fd16]
  simp only [IntKind.wrap_i64]
  omega
theorem tab143 : ∀ n : Fin 100, g143_0 (n.val : Int) = ((n.val / 10 * 16 + n.val % 10 : Nat) : Int) := by decide +kernel
theorem L143 (n : Int) (h0 : 0 ≤ n) (h1 : n ≤ 99) : g143_0 n = n / 10 * 16 + n % 10 := by
  have := tab143 ⟨n.toNat, by omega⟩
  simp only at this
  rw [show ((n.toNat : Nat) : Int) = n by omega] at this
  rw [this]
  omega
theorem L135 (x a b : Int) : g135_0 x a b = (g24_0 a && g24_0 b && g142_0 x 0 1) := by
  unfold g135_0 g150_0
  cases g24_0 a <;> cases g24_0 b <;> rfl
theorem L138 (x a b : Int) : g138_0 x a b = g135_0 x a b := by
  rw [L135]
  unfold g138_0
  rw [L146, L146]
  have : g144_0 x 0 1 = g142_0 x 0 1 := rfl
  rw [this]
  cases g24_0 a <;> cases g24_0 b <;> cases g142_0 x 0 1 <;> rfl

/-- A byte of two digits: its number, and the byte again. -/
theorem num_of (a : Int) (h : g24_0 a = true) : ∃ A : Int, g137_0 a = A ∧ 0 ≤ A ∧ A ≤ 99 ∧ a = A / 10 * 16 + A % 10 ∧ 0 ≤ a ∧ a ≤ 153 := by
  rw [L24] at h
  refine ⟨_, L137 a h.1 (by omega), ?_⟩
  omega
theorem byte_of (n : Int) (h0 : 0 ≤ n) (h1 : n ≤ 99) : g24_0 (g143_0 n) = true ∧ g137_0 (g143_0 n) = n := by
  rw [L143 n h0 h1, L24, L137 _ (by omega) (by omega)]
  omega

theorem L136 (S : Int) (h0 : -100 ≤ S) (h1 : S ≤ 199) : ∃ c r : Int, g136_1 S = c ∧ g136_0 S = g143_0 r ∧ 0 ≤ r ∧ r ≤ 99 ∧ ((S < 0 ∧ c = 1 ∧ r = S + 100) ∨ (0 ≤ S ∧ S ≤ 99 ∧ c = 0 ∧ r = S) ∨ (100 ≤ S ∧ c = 1 ∧ r = S - 100)) := by
  unfold g136_1 g136_0
  by_cases h : 0 ≤ S ∧ S ≤ 99
  · rw [(L142 S 0 99).2 h]
    exact ⟨0, S, rfl, rfl, by omega⟩
  · have e : g142_0 S 0 99 = false := by
      rw [Bool.eq_false_iff]
      intro k
      exact h ((L142 S 0 99).1 k)
    rw [e]
    simp only [cond_false]
    have hw : IntKind.wrap IntKind.i64 (S + 100) = S + 100 := by rw [IntKind.wrap_i64]; omega
    rw [hw, Int.tmod_eq_emod_of_nonneg (by omega)]
    exact ⟨1, _, rfl, rfl, by omega⟩

theorem add_law (x a b : Int) (h : g135_0 x a b = true) : ∃ A B c r : Int, g137_0 a = A ∧ g137_0 b = B ∧ 0 ≤ x ∧ x ≤ 1 ∧ 0 ≤ A ∧ A ≤ 99 ∧ 0 ≤ B ∧ B ≤ 99 ∧ a = A / 10 * 16 + A % 10 ∧
    g16_0 x a b = g143_0 r ∧ g16_1 x a b = c ∧ g139_0 x a b = g143_0 r ∧ g139_1 x a b = c ∧ 0 ≤ r ∧ r ≤ 99 ∧ A + B + x = r + 100 * c ∧ 0 ≤ c ∧ c ≤ 1 := by
  have h' := h
  rw [L135] at h
  simp only [Bool.and_eq_true] at h
  obtain ⟨⟨ha, hb⟩, hx⟩ := h
  rw [L142] at hx
  obtain ⟨A, hA, hA0, hA1, haA, -⟩ := num_of a ha
  obtain ⟨B, hB, hB0, hB1, -⟩ := num_of b hb
  have hS : IntKind.wrap IntKind.i64 (IntKind.wrap IntKind.i64 (g137_0 a + g137_0 b) + x) = A + B + x := by
    rw [hA, hB]
    simp only [IntKind.wrap_i64]
    omega
  obtain ⟨c, r, h1, h2, h3, h4, h5⟩ := L136 (A + B + x) (by omega) (by omega)
  have hr : (A + B + x).tmod 100 = r := by rw [Int.tmod_eq_emod_of_nonneg (by omega)]; omega
  have hc : IntKind.wrap IntKind.i64 ((A + B + x).tdiv 100) = c := by rw [Int.tdiv_eq_ediv_of_nonneg (by omega), IntKind.wrap_i64]; omega
  refine ⟨A, B, c, r, hA, hB, hx.1, hx.2, hA0, hA1, hB0, hB1, haA, ?_, ?_, ?_, ?_, h3, h4, by omega, by omega, by omega⟩
  · simp only [g16_0, h', Bool.not_true, cond_false, hS, h2]
  · simp only [g16_1, h', Bool.not_true, cond_false, hS, h1]
  · show g145_0 (Int.tmod (IntKind.wrap IntKind.i64 (IntKind.wrap IntKind.i64 (g137_0 a + g137_0 b) + x)) 100) = _
    rw [hS, hr]
    rfl
  · show IntKind.wrap IntKind.i64 (Int.tdiv (IntKind.wrap IntKind.i64 (IntKind.wrap IntKind.i64 (g137_0 a + g137_0 b) + x)) 100) = _
    rw [hS, hc]

theorem sub_law (x a b A B : Int) (h : g135_0 x a b = true) (hA : g137_0 a = A) (hB : g137_0 b = B) (h1 : 0 ≤ A) (h2 : A ≤ 99) (h3 : 0 ≤ B) (h4 : B ≤ 99) (h5 : 0 ≤ x) (h6 : x ≤ 1) : ∃ d m : Int,
    g18_0 x a b = g143_0 m ∧ g18_1 x a b = d ∧ g140_0 x a b = g143_0 m ∧ g140_1 x a b = d ∧ 0 ≤ m ∧ m ≤ 99 ∧ A - B - x = m - 100 * d ∧ 0 ≤ d ∧ d ≤ 1 := by
  have hD : IntKind.wrap IntKind.i64 (IntKind.wrap IntKind.i64 (g137_0 a - g137_0 b) - x) = A - B - x := by
    rw [hA, hB]
    simp only [IntKind.wrap_i64]
    omega
  obtain ⟨c, r, k1, k2, k3, k4, k5⟩ := L136 (A - B - x) (by omega) (by omega)
  refine ⟨c, r, ?_, ?_, ?_, ?_, k3, k4, by omega, by omega, by omega⟩
  · simp only [g18_0, h, Bool.not_true, cond_false, hD, k2]
  · simp only [g18_1, h, Bool.not_true, cond_false, hD, k1]
  · show (bif decide (IntKind.wrap IntKind.i64 (IntKind.wrap IntKind.i64 (g137_0 a - g137_0 b) - x) < 0) then g143_0 (IntKind.wrap IntKind.i64 (IntKind.wrap IntKind.i64 (IntKind.wrap IntKind.i64 (g137_0 a - g137_0 b) - x) + 100)) else g143_0 (IntKind.wrap IntKind.i64 (IntKind.wrap IntKind.i64 (g137_0 a - g137_0 b) - x))) = _
    rw [hD]
    have hw : IntKind.wrap IntKind.i64 (A - B - x + 100) = A - B - x + 100 := by rw [IntKind.wrap_i64]; omega
    rw [hw]
    by_cases hn : A - B - x < 0
    · simp only [hn, decide_true, cond_true]
      congr 1
      omega
    · simp only [hn, decide_false, cond_false]
      congr 1
      omega
  · show (bif decide (IntKind.wrap IntKind.i64 (IntKind.wrap IntKind.i64 (g137_0 a - g137_0 b) - x) < 0) then (1 : Int) else 0) = _
    rw [hD]
    by_cases hn : A - B - x < 0
    · simp only [hn, decide_true, cond_true]
      omega
    · simp only [hn, decide_false, cond_false]
      omega


theorem same16 (x a b : Int) : g17_2 x a b = g16_2 x a b ∧ g17_0 x a b = g16_0 x a b ∧ g17_1 x a b = g16_1 x a b := by
  have e : g17_2 x a b = g16_2 x a b := L138 x a b
  refine ⟨e, ?_⟩
  have e1 : g138_0 x a b = g135_0 x a b := L138 x a b
  cases hok : g135_0 x a b
  · simp [g17_0, g17_1, g16_0, g16_1, e1, hok]
  · obtain ⟨A, B, c, r, -, -, -, -, -, -, -, -, -, h1, h2, h3, h4, -⟩ := add_law x a b hok
    rw [h1, h2]
    simp only [g17_0, g17_1, e1, hok, Bool.not_true, cond_false, h3, h4]
    exact ⟨trivial, trivial⟩
theorem same18 (x a b : Int) : g19_2 x a b = g18_2 x a b ∧ g19_0 x a b = g18_0 x a b ∧ g19_1 x a b = g18_1 x a b := by
  have e1 : g138_0 x a b = g135_0 x a b := L138 x a b
  refine ⟨e1, ?_⟩
  cases hok : g135_0 x a b
  · simp [g19_0, g19_1, g18_0, g18_1, e1, hok]
  · obtain ⟨A, B, c, r, hA, hB, hx0, hx1, hA0, hA1, hB0, hB1, -⟩ := add_law x a b hok
    obtain ⟨d, m, f1, f2, f3, f4, -⟩ := sub_law x a b A B hok hA hB hA0 hA1 hB0 hB1 hx0 hx1
    rw [f1, f2]
    simp only [g19_0, g19_1, e1, hok, Bool.not_true, cond_false, f3, f4]
    exact ⟨trivial, trivial⟩

theorem same49 : ∀ (m : Nat) (v0 : List Row) (v1 : Bool) (v2 : List Row) (v3 : Bool) (v4 : List Row) (v5 v6 v7 : Int), L50_0 m v0 v1 v2 v3 v4 v5 v6 v7 = L49_0 m v0 v1 v2 v3 v4 v5 v6 v7
  | 0, _, _, _, _, _, _, _, _ => rfl
  | m + 1, v0, v1, v2, v3, v4, v5, v6, v7 => by
    rw [L50_0, L49_0]
    have hy : y50_0 v0 v1 v2 v3 v4 v5 v6 v7 = y49_0 v0 v1 v2 v3 v4 v5 v6 v7 := by unfold y50_0 y49_0; rw [(same16 _ _ _).1]
    have hz : z50_0 v0 v1 v2 v3 v4 v5 v6 v7 = z49_0 v0 v1 v2 v3 v4 v5 v6 v7 := by unfold z50_0 z49_0; rw [(same16 _ _ _).1]
    rw [hy, hz, (same16 _ _ _).2.1, (same16 _ _ _).2.2, same49 m]
theorem same50 (p q : Bool) (a b : List Row) : g50_0 p a q b = g49_0 p a q b ∧ g50_1 p a q b = g49_1 p a q b ∧ g50_2 p a q b = g49_2 p a q b := by
  have e : ∀ v : Int, g144_0 v 1 8 = g142_0 v 1 8 := fun _ => rfl
  unfold g50_0 g50_1 g50_2 g49_0 g49_1 g49_2
  simp only [w50_0_0, w50_0_5, w50_0_7, w49_0_0, w49_0_5, w49_0_7, same49, (same16 _ _ _).1, e]
  exact ⟨rfl, rfl, rfl⟩

/-- Sums digit by digit. -/
inductive Ch : Int → List Int → List Int → List Int → Int → Prop where
  | nil (c : Int) : Ch c [] [] [] c
  | cons {c x y d : Int} {r s o : List Int} (h : g16_2 c x y = true) (t : Ch (g16_1 c x y) r s o d) : Ch c (x :: r) (y :: s) (g16_0 c x y :: o) d

theorem run49 (p q : Bool) (n : Int) : ∀ (r s pa pb o : List Int) (c : Int) (m : Nat), r.length = s.length → pa.length = pb.length → ((pa.length + r.length : Nat) : Int) = n → n ≤ 8 → o.length = pa.length → r.length < m →
    (∃ o2 d, Ch c r s o2 d ∧ L49_0 m (ri o) p (ri (pa ++ r)) q (ri (pb ++ s)) c n (pa.length : Int) = some (ri (o ++ o2), p, ri (pa ++ r), q, ri (pb ++ s), d, n, n)) ∨
    (∃ w c' j, L49_0 m (ri o) p (ri (pa ++ r)) q (ri (pb ++ s)) c n (pa.length : Int) = some (w, p, ri (pa ++ r), q, ri (pb ++ s), c', n, j) ∧ j < n ∧ g16_2 c' (intAt (ri (pa ++ r)) j.toNat 0) (intAt (ri (pb ++ s)) j.toNat 0) = false)
  | [], s, pa, pb, o, c, m + 1, hl, hp, hn, h8, ho, hm => by
    obtain rfl : s = [] := by cases s <;> simp_all
    left
    refine ⟨[], c, .nil c, ?_⟩
    have e : ((pa.length : Nat) : Int) = n := by simpa using hn
    rw [e]
    simp [L49_0, y49_0, z49_0]
  | x :: r, [], pa, pb, o, c, m + 1, hl, hp, hn, h8, ho, hm => by simp at hl
  | x :: r, y :: s, pa, pb, o, c, m + 1, hl, hp, hn, h8, ho, hm => by
    simp only [List.length_cons] at hl hn hm
    have hlt : ((pa.length : Nat) : Int) < n := by omega
    have g1 : (pa ++ x :: r)[pa.length]? = some x := get_mid
    have g2 : (pb ++ y :: s)[pa.length]? = some y := by rw [hp]; exact get_mid
    have a1 := ri_at g1
    have a2 := ri_at g2
    have i1 := ri_in g1
    have i2 := ri_in g2
    have hy : y49_0 (ri o) p (ri (pa ++ x :: r)) q (ri (pb ++ y :: s)) c n (pa.length : Int) = true := by
      unfold y49_0
      rw [i1, i2, ri_len]
      have : decide ((o.length + 1) * 8 ≤ 140737488355328) = true ∧ decide (o.length + 1 ≤ 140737488355328) = true := by
        simp only [decide_eq_true_eq]; omega
      simp only [Nat.zero_add, decide_true, this.1, this.2, Bool.and_self, Bool.true_and, Bool.true_or]
    rw [L49_0, hy, cond_true]
    unfold z49_0
    rw [Int.toNat_natCast, a1, a2]
    cases hok : g16_2 c x y
    · right
      refine ⟨ri o, c, (pa.length : Int), ?_, hlt, by rw [Int.toNat_natCast, a1, a2]; exact hok⟩
      simp
    · have hw : IntKind.wrap IntKind.i64 ((pa.length : Int) + 1) = ((pa ++ [x]).length : Int) := by rw [IntKind.wrap_i64, List.length_append]; simp only [List.length_cons, List.length_nil]; omega
      simp only [hlt, decide_true, Bool.not_true, Bool.or_false, cond_false]
      have e1 : pa ++ x :: r = (pa ++ [x]) ++ r := by simp
      have e2 : pb ++ y :: s = (pb ++ [y]) ++ s := by simp
      rw [hw, ← ri_append, e1, e2]
      rcases run49 p q n r s (pa ++ [x]) (pb ++ [y]) (o ++ [g16_0 c x y]) (g16_1 c x y) m (by omega) (by simp; exact hp) (by simp; omega) h8 (by simp; exact ho) (by omega) with ⟨o2, d, h1, h2⟩ | ⟨w, c', j, h1, h2, h3⟩
      · left
        refine ⟨g16_0 c x y :: o2, d, .cons hok h1, ?_⟩
        rw [h2]
        simp
      · right
        exact ⟨w, c', j, h1, h2, h3⟩

theorem run6 (rows : List Row) (cc n : Int) : ∀ {c : Int} {r s o : List Int} {d : Int}, Ch c r s o d → ∀ (pa pb po : List Int) (m : Nat), pa.length = pb.length → pa.length = po.length → ((pa.length + r.length : Nat) : Int) = n → n ≤ 8 → r.length < m →
    L6_0 m (ri (pa ++ r)) (ri (pb ++ s)) (ri (po ++ o)) rows cc c n (pa.length : Int) = some (ri (pa ++ r), ri (pb ++ s), ri (po ++ o), rows, cc, d, n, n)
  | c, _, _, _, _, .nil _, pa, pb, po, m + 1, h1, h2, hn, h8, hm => by
    have e : ((pa.length : Nat) : Int) = n := by simpa using hn
    rw [e]
    simp [L6_0, y6_0, z6_0]
  | c, _, _, _, d, .cons (x := x) (y := y) (r := r) (s := s) (o := o) hok t, pa, pb, po, m + 1, h1, h2, hn, h8, hm => by
    simp only [List.length_cons] at hn hm
    have hlt : ((pa.length : Nat) : Int) < n := by omega
    have g1 : (pa ++ x :: r)[pa.length]? = some x := get_mid
    have g2 : (pb ++ y :: s)[pa.length]? = some y := by rw [h1]; exact get_mid
    have g3 : (po ++ g16_0 c x y :: o)[pa.length]? = some (g16_0 c x y) := by rw [h2]; exact get_mid
    obtain ⟨A, B, k, w, hA, hB, hx0, hx1, hA0, hA1, hB0, hB1, -, e1, e2, -, -, hw0, hw1, hS, hk0, hk1⟩ := add_law c x y hok
    have hb := byte_of w hw0 hw1
    have hok2 := hok
    have hok3 : g16_2 c x y = (g24_0 x && g24_0 y && g142_0 c 0 1) := L135 c x y
    rw [hok3] at hok2
    simp only [Bool.and_eq_true] at hok2
    obtain ⟨⟨hxa, hya⟩, -⟩ := hok2
    have n1 : g20_0 x = A := by simp only [g20_0, hxa, Bool.not_true, cond_false, hA]
    have n2 : g20_0 y = B := by simp only [g20_0, hya, Bool.not_true, cond_false, hB]
    have n3 : g20_0 (g16_0 c x y) = w := by rw [e1]; simp only [g20_0, hb.1, Bool.not_true, cond_false, hb.2]
    have hv : g24_0 (g16_0 c x y) = true := by rw [e1]; exact hb.1
    have hs : IntKind.wrap IntKind.i64 (IntKind.wrap IntKind.i64 (A + B) + c) = A + B + c := by simp only [IntKind.wrap_i64]; omega
    have ht : Int.tmod (A + B + c) 100 = w := by rw [Int.tmod_eq_emod_of_nonneg (by omega)]; omega
    have hd : IntKind.wrap IntKind.i64 (Int.tdiv (A + B + c) 100) = g16_1 c x y := by rw [e2, Int.tdiv_eq_ediv_of_nonneg (by omega), IntKind.wrap_i64]; omega
    have hlen : ∀ (p q : List Int) (z : Int), p.length = pa.length → decide ((pa.length : Int) < ((ri (p ++ z :: q)).length : Int)) = true := fun p q z hp => by
      rw [decide_eq_true_eq]; simp [ri]; omega
    have hy : y6_0 (ri (pa ++ x :: r)) (ri (pb ++ y :: s)) (ri (po ++ g16_0 c x y :: o)) rows cc c n (pa.length : Int) = true := by
      unfold y6_0
      rw [Nat.zero_add, Int.toNat_natCast, ri_has g1, ri_has g2, ri_has g3, hlen pa r x rfl, hlen pb s y h1.symm, hlen po o _ h2.symm]
      simp
    have hz : z6_0 (ri (pa ++ x :: r)) (ri (pb ++ y :: s)) (ri (po ++ g16_0 c x y :: o)) rows cc c n (pa.length : Int) = false := by
      unfold z6_0
      rw [Nat.zero_add, Int.toNat_natCast, ri_at g1, ri_at g2, ri_at g3, hxa, hya, hv, n1, n2, n3, hs, ht]
      simp [hlt]
    have hw : IntKind.wrap IntKind.i64 ((pa.length : Int) + 1) = ((pa ++ [x]).length : Int) := by rw [IntKind.wrap_i64, List.length_append]; simp only [List.length_cons, List.length_nil]; omega
    have ih := run6 rows cc n t (pa ++ [x]) (pb ++ [y]) (po ++ [g16_0 c x y]) m (by simp; exact h1) (by simp; exact h2) (by simp; omega) h8 (by omega)
    simp only [List.append_assoc, List.cons_append, List.nil_append] at ih
    rw [L6_0, hy, hz, cond_true, cond_false, Nat.zero_add, Int.toNat_natCast, ri_at g1, ri_at g2, n1, n2, hs, hd, hw]
    exact ih

/-- A list is the same as itself. -/
theorem l47 (p q : Bool) : ∀ (r pre : List Int) (m : Nat), (pre ++ r).length < 4611686018427387904 → r.length < m →
    L47_0 m p (ri (pre ++ r)) q (ri (pre ++ r)) ((pre ++ r).length : Int) (pre.length : Int) = some (p, ri (pre ++ r), q, ri (pre ++ r), ((pre ++ r).length : Int), ((pre ++ r).length : Int))
  | [], pre, m + 1, hl, hm => by
    simp [L47_0, y47_0, z47_0]
  | d :: r, pre, m + 1, hl, hm => by
    have hlt : ((pre.length : Nat) : Int) < ((pre ++ d :: r).length : Int) := by simp; omega
    have hg : (pre ++ d :: r)[pre.length]? = some d := get_mid
    have e1 := ri_at hg
    have e2 := ri_in hg
    have hw4 : IntKind.wrap IntKind.i64 ((pre.length : Int) + 1) = ((pre ++ [d]).length : Int) := by
      rw [IntKind.wrap_i64, List.length_append]; simp only [List.length_append, List.length_cons, List.length_nil] at *; omega
    have hy : y47_0 p (ri (pre ++ d :: r)) q (ri (pre ++ d :: r)) ((pre ++ d :: r).length : Int) (pre.length : Int) = true := by
      simp only [y47_0, e2, Bool.and_self, Bool.true_or]
    have hz : z47_0 p (ri (pre ++ d :: r)) q (ri (pre ++ d :: r)) ((pre ++ d :: r).length : Int) (pre.length : Int) = false := by
      simp only [z47_0, hlt, decide_true, Bool.not_true, Bool.or_false, bne_self_eq_false]
    have e3 : pre ++ d :: r = (pre ++ [d]) ++ r := by simp
    have ih := l47 p q r (pre ++ [d]) m (by rw [← e3]; exact hl) (by simp only [List.length_cons] at hm; omega)
    rw [L47_0, hy, hz, cond_true, cond_false, hw4]
    rw [← e3] at ih
    exact ih
theorem same_ints (p q : Bool) (l : List Int) (h : l.length < 4611686018427387904) : g47_0 p (ri l) q (ri l) = true ∧ Option.isSome (L47_0 (List.length (ri l) + 1) p (ri l) q (ri l) (↑(List.length (ri l)) : Int) 0) = true := by
  have e := l47 p q l [] (List.length (ri l) + 1) (by simpa using h) (by rw [ri_len]; omega)
  simp only [List.nil_append, List.length_nil] at e
  have e' : L47_0 (List.length (ri l) + 1) p (ri l) q (ri l) (↑(List.length (ri l)) : Int) 0 = some (p, ri l, q, ri l, (l.length : Int), (l.length : Int)) := by
    rw [ri_len] at e ⊢
    exact e
  constructor
  · unfold g47_0
    simp only [w47_0_1, w47_0_3, w47_0_4, w47_0_5, e', Option.getD_some, bne_self_eq_false, cond_false, Bool.false_and, Bool.not_false]
  · rw [e']; rfl

theorem ch_len : ∀ {c : Int} {r s o : List Int} {d : Int}, Ch c r s o d → o.length = r.length
  | _, _, _, _, _, .nil _ => rfl
  | _, _, _, _, _, .cons _ t => by simp [ch_len t]

/-- What the digits' sum gives. -/
structure Dg (xs ys : List Int) (d : Int) (o : List Int) : Prop where
  ch : Ch 0 xs ys o d
  ok : g49_1 false (ri xs) false (ri ys) = true
  c : g49_0 false (ri xs) false (ri ys) = d
  l : g49_2 false (ri xs) false (ri ys) = ri o
  n : xs.length ≤ 8
  eq : xs.length = ys.length
theorem dg (xs ys : List Int) : (Option.isSome (L49_0 70 [] false (ri xs) false (ri ys) 0 (↑(List.length (ri xs)) : Int) 0) || bif !g142_0 (↑(List.length (ri xs)) : Int) 1 8 then true else (↑(List.length (ri ys)) : Int) != (↑(List.length (ri xs)) : Int)) = true ∧
    ((g49_1 false (ri xs) false (ri ys) = false ∧ g49_2 false (ri xs) false (ri ys) = []) ∨ ∃ d o, Dg xs ys d o) := by
  cases hc : (bif !g142_0 (↑(List.length (ri xs)) : Int) 1 8 then true else (↑(List.length (ri ys)) : Int) != (↑(List.length (ri xs)) : Int))
  · have h1 : g142_0 (xs.length : Int) 1 8 = true ∧ ys.length = xs.length := by
      rw [ri_len, ri_len] at hc
      cases e : g142_0 (xs.length : Int) 1 8
      · rw [e] at hc; simp at hc
      · rw [e] at hc
        simp only [Bool.not_true, cond_false, bne_eq_false_iff_eq] at hc
        exact ⟨rfl, by omega⟩
    have h2 := (L142 _ _ _).1 h1.1
    rcases run49 false false (xs.length : Int) xs ys [] [] [] 0 70 h1.2.symm rfl (by simp) h2.2 rfl (by omega) with ⟨o2, d, k1, k2⟩ | ⟨w, c', j, k1, k2, k3⟩
    · simp only [List.nil_append, List.length_nil] at k2
      have e : L49_0 70 [] false (ri xs) false (ri ys) 0 (↑(List.length (ri xs)) : Int) 0 = some (ri o2, false, ri xs, false, ri ys, d, (xs.length : Int), (xs.length : Int)) := by
        rw [ri_len]; exact k2
      refine ⟨by rw [e]; rfl, .inr ⟨d, o2, k1, ?_, ?_, ?_, by omega, by omega⟩⟩
      · unfold g49_1
        rw [hc]
        simp only [cond_false, w49_0_5, w49_0_7, e, Option.getD_some]
        simp [ri_len]
      · unfold g49_0
        rw [hc]
        simp only [cond_false, w49_0_5, w49_0_7, e, Option.getD_some]
        simp [ri_len]
      · unfold g49_2
        rw [hc]
        simp only [cond_false, w49_0_0, w49_0_5, w49_0_7, e, Option.getD_some]
        simp [ri_len]
    · simp only [List.nil_append, List.length_nil] at k1 k3
      have e : L49_0 70 [] false (ri xs) false (ri ys) 0 (↑(List.length (ri xs)) : Int) 0 = some (w, false, ri xs, false, ri ys, c', (xs.length : Int), j) := by
        rw [ri_len]; exact k1
      refine ⟨by rw [e]; rfl, .inl ⟨?_, ?_⟩⟩
      · unfold g49_1
        rw [hc]
        simp only [cond_false, w49_0_5, w49_0_7, e, Option.getD_some, k3]
        simp [ri_len, k2]
      · unfold g49_2
        rw [hc]
        simp only [cond_false, w49_0_0, w49_0_5, w49_0_7, e, Option.getD_some, k3]
        simp [ri_len, k2]
  · refine ⟨by simp, .inl ⟨?_, ?_⟩⟩
    · unfold g49_1; rw [hc]; rfl
    · unfold g49_2; rw [hc]; rfl

/-- The digits that are drawn. -/
theorem run48 {rows : List Row} (hb : bytesOk rows = true) : ∀ (k : Nat) (u w : List Int) (p s : Int) (m : Nat), 0 ≤ p → p + 3 * k + 10 < 4611686018427387904 → u.length + k ≤ 100 → w.length + k ≤ 100 → k < m →
    ∃ xs ys p' s', L48_0 m (ri u) (ri w) rows p s (k : Int) = some (ri xs, ri ys, rows, p', s', 0)
  | 0, u, w, p, s, m + 1, h0, h1, h2, h3, h4 => ⟨u, w, p, s, by simp [L48_0, y48_0, z48_0]⟩
  | k + 1, u, w, p, s, m + 1, h0, h1, h2, h3, h4 => by
    have hw : IntKind.wrap IntKind.i64 (((k + 1 : Nat) : Int) - 1) = (k : Int) := by rw [IntKind.wrap_i64]; omega
    have o1 : okTo 1 p = true := by rw [okTo_iff]; omega
    have o2 : okTo 3 (p + 1) = true := by rw [okTo_iff]; omega
    have hy : y48_0 (ri u) (ri w) rows p s ((k + 1 : Nat) : Int) = true := by
      unfold y48_0
      rw [hb, o1, o2, ri_len, ri_len]
      have a1 : decide ((u.length + 1) * 8 ≤ 140737488355328) = true ∧ decide (u.length + 1 ≤ 140737488355328) = true := by
        simp only [decide_eq_true_eq]; omega
      have a2 : decide ((w.length + 1) * 8 ≤ 140737488355328) = true ∧ decide (w.length + 1 ≤ 140737488355328) = true := by
        simp only [decide_eq_true_eq]; omega
      simp only [Nat.zero_add, decide_true, a1.1, a1.2, a2.1, a2.2, Bool.and_self, Bool.true_or]
    have hz : z48_0 (ri u) (ri w) rows p s ((k + 1 : Nat) : Int) = false := by
      unfold z48_0
      have : decide (((k + 1 : Nat) : Int) > 0) = true := by rw [decide_eq_true_eq]; omega
      rw [this]; rfl
    obtain ⟨xs, ys, p', s', ih⟩ := run48 hb k (u ++ [g145_0 (g141_0 rows p s 100)]) (w ++ [g134_0 rows (p + 1) (g141_3 rows p s 100)]) (p + 1 + 2) (g134_3 rows (p + 1) (g141_3 rows p s 100)) m (by omega) (by omega) (by simp; omega) (by simp; omega) (by omega)
    refine ⟨xs, ys, p', s', ?_⟩
    rw [L48_0, hy, hz, cond_true, cond_false, ← ri_append, ← ri_append, hw]
    exact ih
theorem draws {rows : List Row} (hb : bytesOk rows = true) : (∃ xs ys, g48_0 rows = ri xs ∧ g48_1 rows = ri ys) ∧
    Option.isSome (L48_0 70 [] [] rows (bif g167_0 rows 1 (g141_3 rows 0 0 3) 20 then 3 else 2) (bif g167_0 rows 1 (g141_3 rows 0 0 3) 20 then g141_3 rows 2 (g167_2 rows 1 (g141_3 rows 0 0 3) 20) 2 else g167_2 rows 1 (g141_3 rows 0 0 3) 20) (bif g167_0 rows 1 (g141_3 rows 0 0 3) 20 then IntKind.wrap IntKind.i64 (8 + g141_0 rows 2 (g167_2 rows 1 (g141_3 rows 0 0 3) 20) 2) else IntKind.wrap IntKind.i64 (1 + g141_0 rows 0 0 3))) = true := by
  have r1 := pick_rng hb (show (0 : Int) ≤ 2 by decide) (g167_2 rows 1 (g141_3 rows 0 0 3) 20) (n := 2) (by decide)
  have r2 := pick_rng hb (show (0 : Int) ≤ 0 by decide) 0 (n := 3) (by decide)
  unfold g48_0 g48_1
  simp only [w48_0_0, w48_0_1]
  generalize (bif g167_0 rows 1 (g141_3 rows 0 0 3) 20 then g141_3 rows 2 (g167_2 rows 1 (g141_3 rows 0 0 3) 20) 2 else g167_2 rows 1 (g141_3 rows 0 0 3) 20) = s
  have hp : ∃ p : Int, (bif g167_0 rows 1 (g141_3 rows 0 0 3) 20 then (3 : Int) else 2) = p ∧ 0 ≤ p ∧ p ≤ 3 := by
    cases g167_0 rows 1 (g141_3 rows 0 0 3) 20
    · exact ⟨2, rfl, by decide, by decide⟩
    · exact ⟨3, rfl, by decide, by decide⟩
  have hk : ∃ k : Nat, (bif g167_0 rows 1 (g141_3 rows 0 0 3) 20 then IntKind.wrap IntKind.i64 (8 + g141_0 rows 2 (g167_2 rows 1 (g141_3 rows 0 0 3) 20) 2) else IntKind.wrap IntKind.i64 (1 + g141_0 rows 0 0 3)) = (k : Int) ∧ k ≤ 10 := by
    cases g167_0 rows 1 (g141_3 rows 0 0 3) 20
    · simp only [cond_false, IntKind.wrap_i64]
      exact ⟨(1 + g141_0 rows 0 0 3).toNat, by omega, by omega⟩
    · simp only [cond_true, IntKind.wrap_i64]
      exact ⟨(8 + g141_0 rows 2 (g167_2 rows 1 (g141_3 rows 0 0 3) 20) 2).toNat, by omega, by omega⟩
  obtain ⟨p, e1, p0, p1⟩ := hp
  obtain ⟨k, e2, k1⟩ := hk
  rw [e1, e2]
  obtain ⟨xs, ys, p', s', e⟩ := run48 hb k [] [] p s 70 p0 (by omega) (by simp; omega) (by simp; omega) (by omega)
  have e' : L48_0 70 [] [] rows p s (k : Int) = some (ri xs, ri ys, rows, p', s', 0) := e
  rw [e']
  exact ⟨⟨xs, ys, rfl, rfl⟩, rfl⟩

theorem part1 (x v w : Int) : (bif bif bif bif !g52_2 x v == g53_2 x v then true else g52_0 x v != g53_0 x v then true else g52_1 x v != g53_1 x v then true else !g24_0 w == g146_0 w then true else g55_0 w != g56_0 w) = false := by
  have h := same18 x 0 v
  have e1 : g53_2 x v = g52_2 x v := h.1
  have e2 : g53_0 x v = g52_0 x v := h.2.1
  have e3 : g53_1 x v = g52_1 x v := h.2.2
  have e4 : g56_0 w = g55_0 w := by unfold g56_0 g55_0; rw [L146]; rfl
  rw [e1, e2, e3, e4, L146]
  simp
theorem part2 (w : Int) (hw : g24_0 w = true) : (bif bif bif bif g16_2 1 (g55_0 w) 0 then g52_2 0 w else false then g16_0 1 (g55_0 w) 0 == g52_0 0 w else false then g24_0 (g55_0 w) else false then g55_0 (g55_0 w) == w else false) = true := by
  obtain ⟨N, hN, hN0, hN1, hwN, -⟩ := num_of w hw
  have hsub : ∀ M : Int, 0 ≤ M → M ≤ 99 → IntKind.wrap IntKind.i64 (99 - M) = 99 - M := fun M h0 h1 => by rw [IntKind.wrap_i64]; omega
  have hp : g55_0 w = g143_0 (99 - N) := by
    unfold g55_0
    rw [hw, hN, hsub N hN0 hN1]
    rfl
  have hb := byte_of (99 - N) (by omega) (by omega)
  have hback : g55_0 (g143_0 (99 - N)) = w := by
    unfold g55_0
    rw [hb.1, hb.2, hsub (99 - N) (by omega) (by omega)]
    simp only [Bool.not_true, cond_false]
    rw [L143 _ (by omega) (by omega)]
    omega
  have h0 : g24_0 0 = true := by rw [L24]; decide
  have hx1 : g142_0 1 0 1 = true := rfl
  have hx0 : g142_0 0 0 1 = true := rfl
  have ok1 : g135_0 1 (g143_0 (99 - N)) 0 = true := by rw [L135, hb.1, h0, hx1]; rfl
  have ok2 : g135_0 0 0 w = true := by rw [L135, h0, hw, hx0]; rfl
  have z0 : g137_0 0 = 0 := by rw [L137 0 (by decide) (by decide)]; rfl
  obtain ⟨A, B, c, r, hA, hB, -, -, -, -, -, -, -, e1, -, -, -, hr0, hr1, hS, hc0, hc1⟩ := add_law 1 (g143_0 (99 - N)) 0 ok1
  rw [hb.2] at hA
  rw [z0] at hB
  obtain ⟨d, m, f1, -, -, -, hm0, hm1, hD, hd0, hd1⟩ := sub_law 0 0 w 0 N ok2 z0 hN (by decide) (by decide) hN0 hN1 (by decide) (by decide)
  have hrm : r = m := by omega
  have e2 : g16_2 1 (g143_0 (99 - N)) 0 = true := ok1
  have e3 : g52_2 0 w = true := ok2
  have e4 : g52_0 0 w = g143_0 m := f1
  rw [hp, e2, e3, e1, e4, hb.1, hback, hrm]
  simp

theorem pure6 (x0 x1 : List Row) (hb : bytesOk x0 = true) : g6_0 x0 x1 = true := by
  obtain ⟨⟨xs, ys, ha, hbb⟩, -⟩ := draws hb
  unfold g6_0
  rw [ha, hbb]
  have s5 := same50 false false (ri xs) (ri ys)
  rw [s5.1, s5.2.1, s5.2.2]
  have p1 := part1 (g51_0 x1) (g51_1 x1) (g25_0 x1)
  rw [p1]
  have p2 : (bif bif bif bif g16_2 1 (g55_0 (g25_0 x1)) 0 then g52_2 0 (g25_0 x1) else false then g16_0 1 (g55_0 (g25_0 x1)) 0 == g52_0 0 (g25_0 x1) else false then g24_0 (g55_0 (g25_0 x1)) else false then g55_0 (g55_0 (g25_0 x1)) == g25_0 x1 else false) = true ∨ g24_0 (g25_0 x1) = false := by
    cases h : g24_0 (g25_0 x1)
    · exact .inr rfl
    · exact .inl (part2 _ h)
  rcases (dg xs ys).2 with ⟨h1, h2⟩ | ⟨d, o, D⟩
  · have hs : g47_0 false (ri []) false (ri []) = true := (same_ints false false [] (by decide)).1
    have h3 : g49_2 false (ri xs) false (ri ys) = ri [] := h2
    rw [h3, hs, h1]
    rcases p2 with p2 | p2
    · rw [p2]; simp
    · rw [p2]; simp
  · have hl := ch_len D.ch
    have hs := (same_ints false false o (by have := D.n; omega)).1
    have e := run6 x1 d (xs.length : Int) D.ch [] [] [] 70 rfl rfl (by simp) (by have := D.n; omega) (by have := D.n; omega)
    have e : L6_0 70 (ri xs) (ri ys) (ri o) x1 d 0 (xs.length : Int) 0 = some (ri xs, ri ys, ri o, x1, d, d, (xs.length : Int), (xs.length : Int)) := e
    have hlo : (List.length (ri o) : Int) = (xs.length : Int) := by rw [ri_len, hl]
    rw [D.ok, D.c, D.l, hs, hlo]
    simp only [w6_0_5, w6_0_7, e, Option.getD_some]
    rcases p2 with p2 | p2
    · rw [p2]; simp
    · rw [p2]; simp

theorem pureL (x0 x1 : List Row) (h0 : bytesOk x0 = true) (_h1 : bytesOk x1 = true) : g6_0 x0 x1 = true := pure6 x0 x1 h0
theorem okL (x0 x1 : List Row) (h0 : bytesOk x0 = true) (h1 : bytesOk x1 = true) : ∃ ok, q6 [.one (.imm true 1 x0), .one (.imm true 1 x1)] [] = some ((SV.one (T.lit (Value.bool (g6_0 x0 x1))), []), ok) ∧ ok = true := by
  refine ⟨_, rfl, ?_⟩
  obtain ⟨⟨xs, ys, ha, hbb⟩, c48⟩ := draws h0
  rw [h0, h1, c48, ha, hbb]
  have s5 := same50 false false (ri xs) (ri ys)
  have c49 := (dg xs ys).1
  have e144 : g144_0 (↑(List.length (ri xs)) : Int) 1 8 = g142_0 (↑(List.length (ri xs)) : Int) 1 8 := rfl
  rw [s5.1, s5.2.1, s5.2.2, same49, e144, c49]
  rcases (dg xs ys).2 with ⟨k1, k2⟩ | ⟨d, o, D⟩
  · have hs : Option.isSome (L47_0 (List.length (ri []) + 1) false (ri []) false (ri []) (↑(List.length (ri [])) : Int) 0) = true := (same_ints false false [] (by decide)).2
    have k3 : g49_2 false (ri xs) false (ri ys) = ri [] := k2
    rw [k3, k1, hs]
    simp
  · have hl := ch_len D.ch
    have hs := (same_ints false false o (by have := D.n; omega)).2
    have e := run6 x1 d (xs.length : Int) D.ch [] [] [] 70 rfl rfl (by simp) (by have := D.n; omega) (by have := D.n; omega)
    have e : L6_0 70 (ri xs) (ri ys) (ri o) x1 d 0 (xs.length : Int) 0 = some (ri xs, ri ys, ri o, x1, d, d, (xs.length : Int), (xs.length : Int)) := e
    have hlo : (List.length (ri o) : Int) = (xs.length : Int) := by rw [ri_len, hl]
    rw [D.ok, D.c, D.l, hs, hlo, e]
    simp
end Go.Proofs.YtckjibiolfapiaaDigits
