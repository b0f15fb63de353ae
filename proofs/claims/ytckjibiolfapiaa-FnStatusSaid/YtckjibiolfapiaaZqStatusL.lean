/- Status: the plain law. -/
import Derived.Test.YtckjibiolfapiaaZqStatusQ
import Derived.Test.YtckjibiolfapiaaZqList
set_option linter.unusedVariables false
set_option linter.unusedSimpArgs false
namespace Go.Proofs.YtckjibiolfapiaaStatus
open Go Go.Zq
set_option maxHeartbeats 4000000
set_option maxRecDepth 100000

/-! Draws of registers: four numbers each. -/
abbrev RL (k : Nat) (D A x0 : List Row) (p s i : Int) := L188_0 k [] [] D A x0 p s 0 0 0 0 false false 0 0 0 7 true false i
theorem regs_y {a b c d e f g h : Int} {x0 : List Row} {p s i : Int} (hb : bytesOk x0 = true) (hp : okTo 4 p = true) (hi : i = 0 ∨ i = 1 ∨ i = 2 ∨ i = 3) :
    y188_0 [] [] (ri [a, b, c, d]) (ri [e, f, g, h]) x0 p s 0 0 0 0 false false 0 0 0 7 true false i = true := by
  have h2 : okTo 2 p = true := okTo_le hp (by decide)
  have h3 : okTo 2 (p + 1) = true := okTo_add (u := 1) (v := 2) (w := 4) hp ⟨by decide, by decide⟩ (by decide)
  rcases hi with rfl | rfl | rfl | rfl <;> (unfold y188_0; rw [hb, h2, h3]; rfl)
theorem regs_step (k : Nat) {D A x0 : List Row} {p s i : Int} (hy : y188_0 [] [] D A x0 p s 0 0 0 0 false false 0 0 0 7 true false i = true) (hi : i < 4) :
    ∃ v u s', RL (k + 1) D A x0 p s i = RL k (D.set i.toNat [.lit (.int .i64 v)]) (A.set i.toNat [.lit (.int .i64 u)]) x0 (p + 1 + 1) s' (IntKind.wrap .i64 (i + 1)) := by
  have hz : z188_0 [] [] D A x0 p s 0 0 0 0 false false 0 0 0 7 true false i = false := by
    unfold z188_0
    rw [decide_eq_true hi]; rfl
  simp only [RL, L188_0, hy, hz, cond_true, cond_false]
  exact ⟨_, _, _, rfl⟩
theorem regs_end (k : Nat) {D A x0 : List Row} {p s : Int} : RL (k + 1) D A x0 p s 4 = some ([], [], D, A, x0, p, s, 0, 0, 0, 0, false, false, 0, 0, 0, 7, true, false, 4) := by
  have hy : y188_0 [] [] D A x0 p s 0 0 0 0 false false 0 0 0 7 true false 4 = true := by
    unfold y188_0
    exact Bool.or_true _
  simp only [RL, L188_0, hy, cond_true]
  rfl
theorem regs_loop {x0 : List Row} {p s : Int} (hb : bytesOk x0 = true) (hp : okTo 20 p = true) :
    ∃ a b c d e f g h s' : Int, RL 70 g188_s0 g188_s0 x0 p s 0 = some ([], [], ri [a, b, c, d], ri [e, f, g, h], x0, p + 8, s', 0, 0, 0, 0, false, false, 0, 0, 0, 7, true, false, 4) := by
  have q1 : okTo 4 p = true := okTo_le hp (by decide)
  have q2 : okTo 4 (p + 1 + 1) = true := by rw [okTo_iff] at *; omega
  have q3 : okTo 4 (p + 1 + 1 + 1 + 1) = true := by rw [okTo_iff] at *; omega
  have q4 : okTo 4 (p + 1 + 1 + 1 + 1 + 1 + 1) = true := by rw [okTo_iff] at *; omega
  obtain ⟨v1, u1, s1, e1⟩ := regs_step 69 (D := ri [0, 0, 0, 0]) (A := ri [0, 0, 0, 0]) (s := s) (i := 0) (regs_y hb q1 (by omega)) (by decide)
  obtain ⟨v2, u2, s2, e2⟩ := regs_step 68 (D := ri [v1, 0, 0, 0]) (A := ri [u1, 0, 0, 0]) (s := s1) (i := 1) (regs_y hb q2 (by omega)) (by decide)
  obtain ⟨v3, u3, s3, e3⟩ := regs_step 67 (D := ri [v1, v2, 0, 0]) (A := ri [u1, u2, 0, 0]) (s := s2) (i := 2) (regs_y hb q3 (by omega)) (by decide)
  obtain ⟨v4, u4, s4, e4⟩ := regs_step 66 (D := ri [v1, v2, v3, 0]) (A := ri [u1, u2, u3, 0]) (s := s3) (i := 3) (regs_y hb q4 (by omega)) (by decide)
  refine ⟨v1, v2, v3, v4, u1, u2, u3, u4, s4, ?_⟩
  refine e1.trans (e2.trans (e3.trans (e4.trans ?_)))
  have e5 : p + 1 + 1 + 1 + 1 + 1 + 1 + 1 + 1 = p + 8 := by omega
  rw [e5]
  exact regs_end 65
structure RegsD (x0 : List Row) (p s : Int) : Prop where
  isSome : (RL 70 g188_s0 g188_s0 x0 p s 0).isSome = true
  pos : g188_s1 x0 p s = p + 8
  D0 : ∃ a b c d, g188_s37 x0 p s = ri [a, b, c, d]
  A0 : ∃ a b c d, g188_s40 x0 p s = ri [a, b, c, d]
theorem regs_d {x0 : List Row} {p s : Int} (hb : bytesOk x0 = true) (hp : okTo 20 p = true) : RegsD x0 p s := by
  obtain ⟨a, b, c, d, e, f, g, h, s', hl⟩ := regs_loop (s := s) hb hp
  have w : ∀ {α : Type} (φ : List Row × List Row × List Row × List Row × List Row × Int × Int × Int × Int × Int × Int × Bool × Bool × Int × Int × Int × Int × Bool × Bool × Int → α), φ ((RL 70 g188_s0 g188_s0 x0 p s 0).getD (default, default, default, default, default, default, default, default, default, default, default, default, default, default, default, default, default, default, default, default)) = φ ([], [], ri [a, b, c, d], ri [e, f, g, h], x0, p + 8, s', 0, 0, 0, 0, false, false, 0, 0, 0, 7, true, false, 4) := fun φ => by rw [hl]; rfl
  exact ⟨by rw [hl]; rfl, w fun z => z.2.2.2.2.2.1, ⟨a, b, c, d, w fun z => z.2.2.1⟩, ⟨e, f, g, h, w fun z => z.2.2.2.1⟩⟩
theorem regs_lists {x0 : List Row} {p s : Int} (h : RegsD x0 p s) : (∃ a b c d, g188_9 x0 p s = ri [a, b, c, d]) ∧ ∃ a b c d, g188_10 x0 p s = ri [a, b, c, d] := by
  obtain ⟨a, b, c, d, h1⟩ := h.D0
  obtain ⟨e, f, g, k, h2⟩ := h.A0
  constructor
  · unfold g188_9 g188_s38
    rw [h1]
    cases g188_s19 x0 p s
    · exact ⟨_, _, _, _, rfl⟩
    · exact ⟨_, _, _, _, rfl⟩
  · unfold g188_10 g188_s42 g188_s41
    rw [h2]
    exact ⟨_, _, _, _, rfl⟩
structure RegsO (x0 : List Row) (p s : Int) : Prop where
  k1 : Option.isSome (L188_0 70 [] [] g188_s0 g188_s0 x0 p s 0 0 0 0 false false 0 0 0 7 true false 0) = true
  k2 : g188_s48 x0 p s = true
  p2 : okTo 2 (g188_s2 x0 p s) = true
  p3 : okTo 2 (g188_s3 x0 p s) = true
  p4 : okTo 1 (g188_s4 x0 p s) = true
  p5 : okTo 1 (g188_s5 x0 p s) = true
  p6 : okTo 1 (g188_s6 x0 p s) = true
  p7 : okTo 1 (g188_s7 x0 p s) = true
  p8 : okTo 1 (g188_s8 x0 p s) = true
  p9 : g188_7 x0 p s = p + 16
  k3 : (decide (0 < (↑(List.length (g188_s37 x0 p s)) : Int)) && (Nat.blt 0 (List.length (g188_s37 x0 p s)) && List.length (List.getD (g188_s37 x0 p s) 0 []) == 1) || !g188_s19 x0 p s) = true
  k4 : decide (List.length (g188_s37 x0 p s) ≤ List.length (g188_s38 x0 p s)) = true
  k5 : decide (List.length (g188_s40 x0 p s) ≤ List.length (g188_s42 x0 p s)) = true
theorem regs_o {x0 : List Row} {p s : Int} (hb : bytesOk x0 = true) (hp : okTo 20 p = true) (h : RegsD x0 p s) : RegsO x0 p s := by
  obtain ⟨a, b, c, d, h1⟩ := h.D0
  obtain ⟨e, f, g, k, h2⟩ := h.A0
  have hp' := okTo_iff.1 hp
  have e1 := h.pos
  have e2 : g188_s2 x0 p s = p + 9 := by unfold g188_s2; rw [e1]; omega
  have e3 : g188_s3 x0 p s = p + 10 := by unfold g188_s3; rw [e2]; omega
  have e4 : g188_s4 x0 p s = p + 11 := by unfold g188_s4; rw [e3]; omega
  have e5 : g188_s5 x0 p s = p + 12 := by unfold g188_s5; rw [e4]; omega
  have e6 : g188_s6 x0 p s = p + 13 := by unfold g188_s6; rw [e5]; omega
  have e7 : g188_s7 x0 p s = p + 14 := by unfold g188_s7; rw [e6]; omega
  have e8 : g188_s8 x0 p s = p + 15 := by unfold g188_s8; rw [e7]; omega
  refine ⟨h.isSome, ?_, ?_, ?_, ?_, ?_, ?_, ?_, ?_, ?_, ?_, ?_, ?_⟩
  · unfold g188_s48
    have : okTo 2 (g188_s1 x0 p s) = true := by rw [e1, okTo_iff]; omega
    rw [hb, this, h2]
    rfl
  · rw [e2, okTo_iff]; omega
  · rw [e3, okTo_iff]; omega
  · rw [e4, okTo_iff]; omega
  · rw [e5, okTo_iff]; omega
  · rw [e6, okTo_iff]; omega
  · rw [e7, okTo_iff]; omega
  · rw [e8, okTo_iff]; omega
  · unfold g188_7 g188_s33; rw [e8]; omega
  · rw [h1]; rfl
  · unfold g188_s38
    rw [h1]
    cases g188_s19 x0 p s <;> rfl
  · unfold g188_s42 g188_s41
    rw [h2]
    rfl
/-! Registers, four numbers each. -/
theorem L142 (v a b : Int) : g142_0 v a b = true ↔ a ≤ v ∧ v ≤ b := by
  unfold g142_0
  by_cases h : v ≥ a
  · rw [decide_eq_true h, cond_true, decide_eq_true_eq]; omega
  · rw [decide_eq_false h, cond_false]; simp; omega
theorem in_eq (v a b : Int) : g144_0 v a b = g142_0 v a b := rfl
theorem word_eq (v : Int) : g162_0 v = g160_0 v := rfl
/-- Is any of four no word? -/
def wd4 (a b c d : Int) : Int := bif !g160_0 a then 0 else bif !g160_0 b then 1 else bif !g160_0 c then 2 else bif !g160_0 d then 3 else 4
def w4 (a b c d : Int) : Bool := g160_0 a && g160_0 b && g160_0 c && g160_0 d
theorem find4 (q : Bool) (a b c d : Int) : L241_0 70 q (ri [a, b, c, d]) 4 0 = some (q, ri [a, b, c, d], 4, wd4 a b c d) := by
  have e : L241_0 70 q (ri [a, b, c, d]) 4 0 = (bif (!g160_0 a) || false then some (q, ri [a, b, c, d], 4, 0) else bif (!g160_0 b) || false then some (q, ri [a, b, c, d], 4, 1) else bif (!g160_0 c) || false then some (q, ri [a, b, c, d], 4, 2) else bif (!g160_0 d) || false then some (q, ri [a, b, c, d], 4, 3) else some (q, ri [a, b, c, d], 4, 4)) := by kernel_rfl
  rw [e]
  unfold wd4
  cases g160_0 a <;> cases g160_0 b <;> cases g160_0 c <;> cases g160_0 d <;> rfl
theorem areWords4 (q : Bool) (a b c d : Int) : g196_0 q (ri [a, b, c, d]) = w4 a b c d := by
  have hw : w241_0_3 70 q (ri [a, b, c, d]) 4 0 = wd4 a b c d := by
    unfold w241_0_3; rw [find4]; rfl
  have e : g196_0 q (ri [a, b, c, d]) = !decide ((bif !g160_0 (intAt (ri [a, b, c, d]) (Int.toNat (w241_0_3 70 q (ri [a, b, c, d]) 4 0)) 0) && decide (w241_0_3 70 q (ri [a, b, c, d]) 4 0 < 4) then w241_0_3 70 q (ri [a, b, c, d]) 4 0 else -1) ≥ 0) := rfl
  rw [e, hw]
  unfold wd4 w4
  cases ha : g160_0 a
  · show (!decide ((bif !g160_0 a && true then (0 : Int) else -1) ≥ 0)) = _
    rw [ha]; rfl
  cases hb : g160_0 b
  · show (!decide ((bif !g160_0 b && true then (1 : Int) else -1) ≥ 0)) = _
    rw [hb]; rfl
  cases hc : g160_0 c
  · show (!decide ((bif !g160_0 c && true then (2 : Int) else -1) ≥ 0)) = _
    rw [hc]; rfl
  cases hd : g160_0 d
  · show (!decide ((bif !g160_0 d && true then (3 : Int) else -1) ≥ 0)) = _
    rw [hd]; rfl
  · rfl
theorem sfind4 (q q' : Bool) (a b c d : Int) : L228_0 70 q (ri [a, b, c, d]) q' (ri [a, b, c, d]) 4 0 = some (q, ri [a, b, c, d], q', ri [a, b, c, d], 4, wd4 a b c d) := by
  have e : L228_0 70 q (ri [a, b, c, d]) q' (ri [a, b, c, d]) 4 0 = (bif (!g160_0 a) || false then some (q, ri [a, b, c, d], q', ri [a, b, c, d], 4, 0) else bif (!g160_0 b) || false then some (q, ri [a, b, c, d], q', ri [a, b, c, d], 4, 1) else bif (!g160_0 c) || false then some (q, ri [a, b, c, d], q', ri [a, b, c, d], 4, 2) else bif (!g160_0 d) || false then some (q, ri [a, b, c, d], q', ri [a, b, c, d], 4, 3) else some (q, ri [a, b, c, d], q', ri [a, b, c, d], 4, 4)) := by kernel_rfl
  rw [e]
  unfold wd4
  cases g160_0 a <;> cases g160_0 b <;> cases g160_0 c <;> cases g160_0 d <;> rfl
theorem four4 (q : Bool) (a b c d : Int) : g228_0 q (ri [a, b, c, d]) = w4 a b c d := by
  have hw : w228_0_5 70 q (ri [a, b, c, d]) q (ri [a, b, c, d]) 4 0 = wd4 a b c d := by
    unfold w228_0_5; rw [sfind4]; rfl
  have e : g228_0 q (ri [a, b, c, d]) = bif !g160_0 (intAt (ri [a, b, c, d]) (Int.toNat (w228_0_5 70 q (ri [a, b, c, d]) q (ri [a, b, c, d]) 4 0)) 0) && decide (w228_0_5 70 q (ri [a, b, c, d]) q (ri [a, b, c, d]) 4 0 < 4) then false else true := rfl
  rw [e, hw]
  unfold wd4 w4
  cases ha : g160_0 a
  · show (bif !g160_0 a && true then false else true) = _
    rw [ha]; rfl
  cases hb : g160_0 b
  · show (bif !g160_0 b && true then false else true) = _
    rw [hb]; rfl
  cases hc : g160_0 c
  · show (bif !g160_0 c && true then false else true) = _
    rw [hc]; rfl
  cases hd : g160_0 d
  · show (bif !g160_0 d && true then false else true) = _
    rw [hd]; rfl
  · exact cond_eq_true_of _
where
  cond_eq_true_of (x : Bool) : (bif x && false then false else true) = true := by cases x <;> rfl
theorem same4 (q q' : Bool) (a b c d : Int) : g47_0 q (ri [a, b, c, d]) q' (ri [a, b, c, d]) = true ∧ Option.isSome (L47_0 5 q (ri [a, b, c, d]) q' (ri [a, b, c, d]) 4 0) = true := by
  have hl : L47_0 5 q (ri [a, b, c, d]) q' (ri [a, b, c, d]) 4 0 = some (q, ri [a, b, c, d], q', ri [a, b, c, d], 4, 4) := by
    have e : L47_0 5 q (ri [a, b, c, d]) q' (ri [a, b, c, d]) 4 0 = (bif (a != a) || false then some (q, ri [a, b, c, d], q', ri [a, b, c, d], 4, 0) else bif (b != b) || false then some (q, ri [a, b, c, d], q', ri [a, b, c, d], 4, 1) else bif (c != c) || false then some (q, ri [a, b, c, d], q', ri [a, b, c, d], 4, 2) else bif (d != d) || false then some (q, ri [a, b, c, d], q', ri [a, b, c, d], 4, 3) else some (q, ri [a, b, c, d], q', ri [a, b, c, d], 4, 4)) := by kernel_rfl
    rw [e]
    simp
  refine ⟨?_, by rw [hl]; rfl⟩
  have hw : w47_0_5 5 q (ri [a, b, c, d]) q' (ri [a, b, c, d]) 4 0 = 4 := by
    unfold w47_0_5; rw [hl]; rfl
  have e : g47_0 q (ri [a, b, c, d]) q' (ri [a, b, c, d]) = !(intAt (ri [a, b, c, d]) (Int.toNat (w47_0_5 5 q (ri [a, b, c, d]) q' (ri [a, b, c, d]) 4 0)) 0 != intAt (ri [a, b, c, d]) (Int.toNat (w47_0_5 5 q (ri [a, b, c, d]) q' (ri [a, b, c, d]) 4 0)) 0 && decide (w47_0_5 5 q (ri [a, b, c, d]) q' (ri [a, b, c, d]) 4 0 < 4)) := rfl
  rw [e, hw]
  rfl
theorem same0 (q q' : Bool) : g47_0 q [] q' [] = true := by cases q <;> cases q' <;> decide +kernel
abbrev Good (D A : List Row) (o pc f m : Int) : Bool := g108_0 true D true A o pc f m
theorem good_eq (q q' : Bool) (a b c d e f g h o pc fl mk : Int) : g108_0 q (ri [a, b, c, d]) q' (ri [e, f, g, h]) o pc fl mk = (w4 a b c d && w4 e f g h && g160_0 o && g160_0 pc && g183_0 fl && g142_0 mk 0 7) := by
  unfold g108_0
  rw [areWords4, areWords4]
  cases w4 a b c d <;> cases w4 e f g h <;> cases g160_0 o <;> cases g160_0 pc <;> cases g183_0 fl <;> rfl
theorem sgood_eq (q q' : Bool) (a b c d e f g h o pc fl mk : Int) : g191_0 q (ri [a, b, c, d]) q' (ri [e, f, g, h]) o pc fl mk = g108_0 q (ri [a, b, c, d]) q' (ri [e, f, g, h]) o pc fl mk := by
  rw [good_eq]
  unfold g191_0
  rw [four4, four4]
  show (bif bif bif bif bif w4 a b c d then w4 e f g h else false then g160_0 o else false then g160_0 pc else false then g183_0 fl else false then g142_0 mk 0 7 else false) = _
  cases w4 a b c d <;> cases w4 e f g h <;> cases g160_0 o <;> cases g160_0 pc <;> cases g183_0 fl <;> rfl
theorem sameRegs_refl (a b c d e f g h o pc fl mk : Int) (su tr : Bool) : g107_0 true (ri [a, b, c, d]) true (ri [e, f, g, h]) o pc fl mk su tr true (ri [a, b, c, d]) true (ri [e, f, g, h]) o pc fl mk su tr = true := by
  unfold g107_0
  rw [(same4 true true a b c d).1, (same4 true true e f g h).1]
  simp
theorem sameRegs_zero (o pc fl mk : Int) (su tr : Bool) : g107_0 true [] true [] o pc fl mk su tr true [] true [] o pc fl mk su tr = true := by
  unfold g107_0
  rw [same0]
  simp
theorem word_iff (v : Int) : g160_0 v = true ↔ 0 ≤ v ∧ v ≤ 65535 := L142 v 0 65535
theorem flags_iff (v : Int) : g183_0 v = true ↔ 0 ≤ v ∧ v ≤ 31 := L142 v 0 31
theorem w4_iff (a b c d : Int) : w4 a b c d = true ↔ g160_0 a = true ∧ g160_0 b = true ∧ g160_0 c = true ∧ g160_0 d = true := by
  unfold w4
  simp only [Bool.and_eq_true, and_assoc]
theorem good_iff (a b c d e f g h o pc fl mk : Int) : g108_0 true (ri [a, b, c, d]) true (ri [e, f, g, h]) o pc fl mk = true ↔ w4 a b c d = true ∧ w4 e f g h = true ∧ g160_0 o = true ∧ g160_0 pc = true ∧ (0 ≤ fl ∧ fl ≤ 31) ∧ 0 ≤ mk ∧ mk ≤ 7 := by
  rw [good_eq]
  simp only [Bool.and_eq_true, and_assoc, flags_iff, L142]
/-! A status, as bits. -/
def bitsOk (m : Nat) : Bool :=
  (IntKind.wrap IntKind.i64 (↑(BitVec.toNat (BitVec.ofInt 64 (m : Int) &&& BitVec.ofInt 64 31)) : Int) == (m : Int) % 32) &&
  (IntKind.wrap IntKind.i64 (↑(BitVec.toNat (BitVec.ofInt 64 (Int.fdiv (m : Int) 32) &&& BitVec.ofInt 64 7)) : Int) == (m : Int) / 32 % 8) &&
  ((IntKind.wrap IntKind.i64 (↑(BitVec.toNat (BitVec.ofInt 64 (m : Int) &&& BitVec.ofInt 64 256)) : Int) != 0) == decide ((m : Int) / 256 % 2 = 1)) &&
  ((IntKind.wrap IntKind.i64 (↑(BitVec.toNat (BitVec.ofInt 64 (m : Int) &&& BitVec.ofInt 64 512)) : Int) != 0) == decide ((m : Int) / 512 % 2 = 1))
theorem bits_all : (List.range 1024).all bitsOk = true := by decide +kernel
theorem bits {n : Int} (h0 : 0 ≤ n) (h1 : n ≤ 1023) :
    IntKind.wrap IntKind.i64 (↑(BitVec.toNat (BitVec.ofInt 64 n &&& BitVec.ofInt 64 31)) : Int) = n % 32 ∧
    IntKind.wrap IntKind.i64 (↑(BitVec.toNat (BitVec.ofInt 64 (Int.fdiv n 32) &&& BitVec.ofInt 64 7)) : Int) = n / 32 % 8 ∧
    (IntKind.wrap IntKind.i64 (↑(BitVec.toNat (BitVec.ofInt 64 n &&& BitVec.ofInt 64 256)) : Int) != 0) = decide (n / 256 % 2 = 1) ∧
    (IntKind.wrap IntKind.i64 (↑(BitVec.toNat (BitVec.ofInt 64 n &&& BitVec.ofInt 64 512)) : Int) != 0) = decide (n / 512 % 2 = 1) := by
  obtain ⟨m, rfl⟩ : ∃ m : Nat, n = m := ⟨n.toNat, by omega⟩
  have h := List.all_eq_true.1 bits_all m (List.mem_range.2 (by omega))
  unfold bitsOk at h
  simp only [Bool.and_eq_true, beq_iff_eq] at h
  exact ⟨h.1.1.1, h.1.1.2, h.1.2, h.2⟩
/-! Registers with another status. -/
def St (n : Int) : Bool := decide (n / 256 % 2 = 1)
def Tt (n : Int) : Bool := decide (n / 512 % 2 = 1)
def sw (n : Int) (su : Bool) : Bool := !(St n == su)
structure WithOk (a b c d e f g h o pc fl mk : Int) (su : Bool) (n : Int) : Prop where
  i0 : g103_0 true (ri [a, b, c, d]) true (ri [e, f, g, h]) o pc fl mk su n = bif sw n su then h else o
  i1 : g103_1 true (ri [a, b, c, d]) true (ri [e, f, g, h]) o pc fl mk n = pc
  i2 : g103_2 true (ri [a, b, c, d]) true (ri [e, f, g, h]) o pc fl mk n = n % 32
  i3 : g103_3 true (ri [a, b, c, d]) true (ri [e, f, g, h]) o pc fl mk n = n / 32 % 8
  i4 : g103_4 true (ri [a, b, c, d]) true (ri [e, f, g, h]) o pc fl mk su n = St n
  i5 : g103_5 true (ri [a, b, c, d]) true (ri [e, f, g, h]) o pc fl mk n = Tt n
  i7 : g103_7 true (ri [a, b, c, d]) true (ri [e, f, g, h]) o pc fl mk n = ri [a, b, c, d]
  i8 : g103_8 true (ri [a, b, c, d]) true (ri [e, f, g, h]) o pc fl mk su n = ri [e, f, g, bif sw n su then o else h]
  s0 : g104_0 true (ri [a, b, c, d]) true (ri [e, f, g, h]) o pc fl mk su n = bif sw n su then h else o
  s1 : g104_1 true (ri [a, b, c, d]) true (ri [e, f, g, h]) o pc fl mk n = pc
  s2 : g104_2 true (ri [a, b, c, d]) true (ri [e, f, g, h]) o pc fl mk n = n % 32
  s3 : g104_3 true (ri [a, b, c, d]) true (ri [e, f, g, h]) o pc fl mk n = n / 32 % 8
  s4 : g104_4 true (ri [a, b, c, d]) true (ri [e, f, g, h]) o pc fl mk n = St n
  s5 : g104_5 true (ri [a, b, c, d]) true (ri [e, f, g, h]) o pc fl mk n = Tt n
  s7 : g104_7 true (ri [a, b, c, d]) true (ri [e, f, g, h]) o pc fl mk n = ri [a, b, c, d]
  s8 : g104_8 true (ri [a, b, c, d]) true (ri [e, f, g, h]) o pc fl mk su n = ri [e, f, g, bif sw n su then o else h]
theorem with_ok {a b c d e f g h o pc fl mk : Int} {su : Bool} {n : Int} (hg : g108_0 true (ri [a, b, c, d]) true (ri [e, f, g, h]) o pc fl mk = true) (hn : g142_0 n 0 1023 = true) : WithOk a b c d e f g h o pc fl mk su n := by
  obtain ⟨b1, b2, b3, b4⟩ := bits ((L142 n 0 1023).1 hn).1 ((L142 n 0 1023).1 hn).2
  have hg' := (sgood_eq true true a b c d e f g h o pc fl mk).trans hg
  have hn' : g144_0 n 0 1023 = true := hn
  have c1 : g190_s0 n = St n := b3
  have c2 : g192_4 n = St n := b3
  constructor
  · unfold g103_0 g190_0; rw [hg, hn, c1]; rfl
  · unfold g103_1; rw [hg, hn]; rfl
  · unfold g103_2 g190_s3; rw [hg, hn, b1]; rfl
  · unfold g103_3 g190_s5; rw [hg, hn, b2]; rfl
  · unfold g103_4 g190_4; rw [hg, hn, c1]
    cases St n <;> cases su <;> rfl
  · unfold g103_5 g190_s8; rw [hg, hn, b4]; rfl
  · unfold g103_7; rw [hg, hn]; rfl
  · unfold g103_8 g190_7 g190_s12 sw; rw [hg, hn, c1]
    cases (!(St n == su)) <;> rfl
  · unfold g104_0 g192_0; rw [hg', hn', c2]; rfl
  · unfold g104_1; rw [hg', hn']; rfl
  · unfold g104_2 g192_2; rw [hg', hn', b1]; rfl
  · unfold g104_3 g192_3; rw [hg', hn', b2]; rfl
  · unfold g104_4; rw [hg', hn', c2]; rfl
  · unfold g104_5 g192_5; rw [hg', hn', b4]; rfl
  · unfold g104_7; rw [hg', hn']; rfl
  · unfold g104_8 g192_7 g192_s8 sw; rw [hg', hn', c2]
    cases (!(St n == su)) <;> rfl
theorem status_eq {fl mk : Int} (su tr : Bool) (f0 : 0 ≤ fl) (f1 : fl ≤ 31) (m0 : 0 ≤ mk) (m1 : mk ≤ 7) : g1194_0 fl mk su tr = fl + 32 * mk + (bif su then 256 else 0) + (bif tr then 512 else 0) := by
  unfold g1194_0 g224_0
  cases su <;> cases tr <;> (simp only [IntKind.wrap_i64, cond_true, cond_false]; omega)
theorem sstatus_eq (fl mk : Int) (su tr : Bool) : g195_0 fl mk su tr = g1194_0 fl mk su tr := rfl
theorem swap_back (n : Int) (su tr : Bool) {fl mk : Int} (f0 : 0 ≤ fl) (f1 : fl ≤ 31) (m0 : 0 ≤ mk) (m1 : mk ≤ 7) :
    (0 ≤ g1194_0 fl mk su tr ∧ g1194_0 fl mk su tr ≤ 1023) ∧ g1194_0 fl mk su tr % 32 = fl ∧ g1194_0 fl mk su tr / 32 % 8 = mk ∧ St (g1194_0 fl mk su tr) = su ∧ Tt (g1194_0 fl mk su tr) = tr := by
  rw [status_eq su tr f0 f1 m0 m1]
  unfold St Tt
  cases su <;> cases tr <;> simp only [cond_true, cond_false, decide_eq_false_iff_not, decide_eq_true_eq] <;> omega
/-- Everything that the law asks of good registers and a status. -/
theorem law_good {a b c d e f g h o pc fl mk n : Int} {su tr : Bool} (hg : g108_0 true (ri [a, b, c, d]) true (ri [e, f, g, h]) o pc fl mk = true) (hn : g142_0 n 0 1023 = true) :
    let o' := bif sw n su then h else o
    let h' := bif sw n su then o else h
    let s := g1194_0 fl mk su tr
    g108_0 true (ri [a, b, c, d]) true (ri [e, f, g, h']) o' pc (n % 32) (n / 32 % 8) = true ∧ g1194_0 (n % 32) (n / 32 % 8) (St n) (Tt n) = n ∧ g142_0 s 0 1023 = true ∧
    (bif sw s (St n) then h' else o') = o ∧ (bif sw s (St n) then o' else h') = h ∧ s % 32 = fl ∧ s / 32 % 8 = mk ∧ St s = su ∧ Tt s = tr := by
  intro o' h' s
  obtain ⟨g1, g2, g3, g4, ⟨f0, f1⟩, m0, m1⟩ := (good_iff a b c d e f g h o pc fl mk).1 hg
  obtain ⟨n0, n1⟩ := (L142 n 0 1023).1 hn
  obtain ⟨s1, s2, s3, s4, s5⟩ := swap_back n su tr f0 f1 m0 m1
  have q := (w4_iff e f g h).1 g2
  refine ⟨(good_iff _ _ _ _ _ _ _ _ _ _ _ _).2 ⟨g1, (w4_iff _ _ _ _).2 ⟨q.1, q.2.1, q.2.2.1, ?_⟩, ?_, g4, by omega, by omega⟩, ?_, (L142 _ _ _).2 s1, ?_, ?_, s2, s3, s4, s5⟩
  · show g160_0 (bif sw n su then o else h) = true
    cases sw n su
    · exact q.2.2.2
    · exact g3
  · show g160_0 (bif sw n su then h else o) = true
    cases sw n su
    · exact g3
    · exact q.2.2.2
  · rw [status_eq _ _ (by omega) (by omega) (by omega) (by omega)]
    unfold St Tt
    by_cases h1 : n / 256 % 2 = 1 <;> by_cases h2 : n / 512 % 2 = 1 <;> simp only [h1, h2, decide_true, decide_false, cond_true, cond_false] <;> omega
  · have e1 : sw s (St n) = sw n su := by
      show (!(St s == St n)) = (!(St n == su))
      rw [s4]
      cases su <;> cases St n <;> rfl
    rw [e1]
    show (bif sw n su then (bif sw n su then o else h) else (bif sw n su then h else o)) = o
    cases sw n su <;> rfl
  · have e1 : sw s (St n) = sw n su := by
      show (!(St s == St n)) = (!(St n == su))
      rw [s4]
      cases su <;> cases St n <;> rfl
    rw [e1]
    show (bif sw n su then (bif sw n su then h else o) else (bif sw n su then o else h)) = h
    cases sw n su <;> rfl

structure ZeroW (a b c d e f g h o pc fl mk : Int) (su : Bool) (n : Int) : Prop where
  i0 : g103_0 true (ri [a, b, c, d]) true (ri [e, f, g, h]) o pc fl mk su n = 0
  i1 : g103_1 true (ri [a, b, c, d]) true (ri [e, f, g, h]) o pc fl mk n = 0
  i2 : g103_2 true (ri [a, b, c, d]) true (ri [e, f, g, h]) o pc fl mk n = 0
  i3 : g103_3 true (ri [a, b, c, d]) true (ri [e, f, g, h]) o pc fl mk n = 0
  i4 : g103_4 true (ri [a, b, c, d]) true (ri [e, f, g, h]) o pc fl mk su n = false
  i5 : g103_5 true (ri [a, b, c, d]) true (ri [e, f, g, h]) o pc fl mk n = false
  i7 : g103_7 true (ri [a, b, c, d]) true (ri [e, f, g, h]) o pc fl mk n = []
  i8 : g103_8 true (ri [a, b, c, d]) true (ri [e, f, g, h]) o pc fl mk su n = []
  s0 : g104_0 true (ri [a, b, c, d]) true (ri [e, f, g, h]) o pc fl mk su n = 0
  s1 : g104_1 true (ri [a, b, c, d]) true (ri [e, f, g, h]) o pc fl mk n = 0
  s2 : g104_2 true (ri [a, b, c, d]) true (ri [e, f, g, h]) o pc fl mk n = 0
  s3 : g104_3 true (ri [a, b, c, d]) true (ri [e, f, g, h]) o pc fl mk n = 0
  s4 : g104_4 true (ri [a, b, c, d]) true (ri [e, f, g, h]) o pc fl mk n = false
  s5 : g104_5 true (ri [a, b, c, d]) true (ri [e, f, g, h]) o pc fl mk n = false
  s7 : g104_7 true (ri [a, b, c, d]) true (ri [e, f, g, h]) o pc fl mk n = []
  s8 : g104_8 true (ri [a, b, c, d]) true (ri [e, f, g, h]) o pc fl mk su n = []
theorem zeroW {a b c d e f g h o pc fl mk : Int} {su : Bool} {n : Int} (h1 : (bif !g108_0 true (ri [a, b, c, d]) true (ri [e, f, g, h]) o pc fl mk then true else !g142_0 n 0 1023) = true)
    (h2 : (bif !g191_0 true (ri [a, b, c, d]) true (ri [e, f, g, h]) o pc fl mk then true else !g144_0 n 0 1023) = true) : ZeroW a b c d e f g h o pc fl mk su n := by
  constructor
  · unfold g103_0; rw [h1]; rfl
  · unfold g103_1; rw [h1]; rfl
  · unfold g103_2; rw [h1]; rfl
  · unfold g103_3; rw [h1]; rfl
  · unfold g103_4; rw [h1]; rfl
  · unfold g103_5; rw [h1]; rfl
  · unfold g103_7; rw [h1]; rfl
  · unfold g103_8; rw [h1]; rfl
  · unfold g104_0; rw [h2]; rfl
  · unfold g104_1; rw [h2]; rfl
  · unfold g104_2; rw [h2]; rfl
  · unfold g104_3; rw [h2]; rfl
  · unfold g104_4; rw [h2]; rfl
  · unfold g104_5; rw [h2]; rfl
  · unfold g104_7; rw [h2]; rfl
  · unfold g104_8; rw [h2]; rfl

theorem pure12 (x0 x1 : List Row) (h0 : bytesOk x0 = true) : g12_0 x0 x1 = true := by
  obtain ⟨⟨a, b, c, d, hD⟩, e, f, g, h, hA⟩ := regs_lists (regs_d (s := 0) h0 (by decide : okTo 20 0 = true))
  have hD : g102_7 x0 = ri [a, b, c, d] := hD
  have hA : g102_8 x0 = ri [e, f, g, h] := hA
  unfold g12_0 g12_s18 g12_s22 g12_s19 g12_s23 g12_s24 g12_s16 g12_s3 g12_s2 g12_s20 g12_s21 g12_s4 g12_s5 g12_s6 g12_s7 g12_s8 g12_s9 g12_s10 g12_s11 g12_s12 g12_s13 g12_s14 g12_s15 g12_s17
  simp only [hD, hA]
  generalize g102_0 x0 = o
  generalize g102_1 x0 = pc
  generalize g102_2 x0 = fl
  generalize g102_3 x0 = mk
  generalize g102_4 x0 = su
  generalize g102_5 x0 = tr
  generalize g102_6 x0 = n
  have hx1 : g12_s25 x1 = true := by unfold g12_s25; exact decide_eq_true (by omega)
  rw [hx1]
  have k105 : ∀ {q q' : Bool} {D A : List Row} {o pc fl mk : Int}, g105_1 q D q' A o pc fl mk = g108_0 q D q' A o pc fl mk := rfl
  have k106 : ∀ {q q' : Bool} {D A : List Row} {o pc fl mk : Int}, g106_1 q D q' A o pc fl mk = g191_0 q D q' A o pc fl mk := rfl
  have r105 : ∀ {su tr : Bool}, g105_0 true (ri [a, b, c, d]) true (ri [e, f, g, h]) o pc fl mk su tr = g106_0 true (ri [a, b, c, d]) true (ri [e, f, g, h]) o pc fl mk su tr := by
    intro su tr
    unfold g105_0 g106_0
    rw [sgood_eq, sstatus_eq]
  cases hg : g108_0 true (ri [a, b, c, d]) true (ri [e, f, g, h]) o pc fl mk
  · have hs := (sgood_eq true true a b c d e f g h o pc fl mk).trans hg
    have z6 : g103_6 true (ri [a, b, c, d]) true (ri [e, f, g, h]) o pc fl mk n = false := by unfold g103_6; rw [hg]; rfl
    have y6 : g104_6 true (ri [a, b, c, d]) true (ri [e, f, g, h]) o pc fl mk n = false := by unfold g104_6; rw [hs]; rfl
    have z : ZeroW a b c d e f g h o pc fl mk su n := zeroW (by rw [hg]; rfl) (by rw [hs]; rfl)
    simp only [z6, y6, z.i0, z.i1, z.i2, z.i3, z.i4, z.i5, z.i7, z.i8, z.s0, z.s1, z.s2, z.s3, z.s4, z.s5, z.s7, z.s8, k105, k106, r105, hg, hs, sameRegs_zero, Bool.and_false, cond_false, bne_self_eq_false, beq_self_eq_true, Bool.not_true, Bool.cond_self]
  · have hs := (sgood_eq true true a b c d e f g h o pc fl mk).trans hg
    cases hn : g142_0 n 0 1023
    · have z6 : g103_6 true (ri [a, b, c, d]) true (ri [e, f, g, h]) o pc fl mk n = false := by unfold g103_6; rw [hg, hn]; rfl
      have y6 : g104_6 true (ri [a, b, c, d]) true (ri [e, f, g, h]) o pc fl mk n = false := by unfold g104_6; rw [hs, in_eq, hn]; rfl
      have z : ZeroW a b c d e f g h o pc fl mk su n := zeroW (by rw [hg, hn]; rfl) (by rw [hs, in_eq, hn]; rfl)
      simp only [z6, y6, z.i0, z.i1, z.i2, z.i3, z.i4, z.i5, z.i7, z.i8, z.s0, z.s1, z.s2, z.s3, z.s4, z.s5, z.s7, z.s8, k105, k106, r105, hg, hs, sameRegs_zero, Bool.and_false, cond_false, bne_self_eq_false, beq_self_eq_true, Bool.not_true, Bool.cond_self]
    · have z6 : g103_6 true (ri [a, b, c, d]) true (ri [e, f, g, h]) o pc fl mk n = true := by unfold g103_6; rw [hg, hn]; rfl
      have y6 : g104_6 true (ri [a, b, c, d]) true (ri [e, f, g, h]) o pc fl mk n = true := by unfold g104_6; rw [hs, in_eq, hn]; rfl
      have z := with_ok (su := su) hg hn
      obtain ⟨l1, l2, l3, l4, l5, l6, l7, l8, l9⟩ := law_good (su := su) (tr := tr) hg hn
      have st1 : g105_0 true (ri [a, b, c, d]) true (ri [e, f, g, h]) o pc fl mk su tr = g1194_0 fl mk su tr := by unfold g105_0; rw [hg]; rfl
      have sst1 := r105.symm.trans st1
      have st2 : g105_0 true (ri [a, b, c, d]) true (ri [e, f, g, bif sw n su then o else h]) (bif sw n su then h else o) pc (n % 32) (n / 32 % 8) (St n) (Tt n) = n := by unfold g105_0; rw [l1]; exact l2
      have y := with_ok (su := St n) l1 l3
      have x6 : g103_6 true (ri [a, b, c, d]) true (ri [e, f, g, bif sw n su then o else h]) (bif sw n su then h else o) pc (n % 32) (n / 32 % 8) (g1194_0 fl mk su tr) = true := by unfold g103_6; rw [l1, l3]; rfl
      have at3 : ∀ a b c d : Int, intAt (ri [a, b, c, d]) 3 0 = d := fun _ _ _ _ => rfl
      have hsw : sw n su = !(St n == su) := rfl
      simp only [z6, y6, z.i0, z.i1, z.i2, z.i3, z.i4, z.i5, z.i7, z.i8, z.s0, z.s1, z.s2, z.s3, z.s4, z.s5, z.s7, z.s8, k105, k106, sst1, hg, hs, st1, st2, l1, x6, y.i0, y.i1, y.i2, y.i3, y.i4, y.i5, y.i7, y.i8, l4, l5, l6, l7, l8, l9, sameRegs_refl, at3, Bool.and_true, cond_false, cond_true, bne_self_eq_false, beq_self_eq_true, Bool.not_true, Bool.cond_self]
      rw [← hsw]
      cases sw n su <;> simp
theorem is241 (q : Bool) (a b c d : Int) : Option.isSome (L241_0 70 q (ri [a, b, c, d]) 4 0) = true := by rw [find4]; rfl
theorem is228 (q : Bool) (a b c d : Int) : Option.isSome (L228_0 70 q (ri [a, b, c, d]) q (ri [a, b, c, d]) 4 0) = true := by rw [sfind4]; rfl
theorem is47z : Option.isSome (L47_0 1 true [] true [] 0 0) = true := by rfl
theorem len4 (a b c d : Int) : List.length (ri [a, b, c, d]) = 4 := rfl
theorem cast4 : ((4 : Nat) : Int) = 4 := rfl
theorem cast0 : ((0 : Nat) : Int) = 0 := rfl
theorem app0 (l : List Row) : [] ++ l = l := rfl
theorem okL (x0 x1 : List Row) (h0 : bytesOk x0 = true) (h1 : bytesOk x1 = true) : ∃ ok, q12 [.one (.imm true 1 x0), .one (.imm true 1 x1)] [] = some ((SV.one (T.lit (Value.bool (g12_0 x0 x1))), []), ok) ∧ ok = true := by
  refine ⟨_, rfl, ?_⟩
  have hd := regs_d (s := 0) h0 (by decide : okTo 20 0 = true)
  have ho := regs_o (s := 0) h0 (by decide : okTo 20 0 = true) hd
  obtain ⟨⟨a, b, c, d, hD⟩, e, f, g, h, hA⟩ := regs_lists hd
  have hD : g102_7 x0 = ri [a, b, c, d] := hD
  have hA : g102_8 x0 = ri [e, f, g, h] := hA
  have p9 : okTo 2 (g188_7 x0 0 0) = true := by rw [ho.p9]; decide
  unfold g12_s27
  rw [h0, ho.k1, ho.k2, ho.p2, ho.p3, ho.p4, ho.p5, ho.p6, ho.p7, ho.p8, ho.k3, ho.k4, ho.k5, p9]
  simp only [Bool.true_and, Bool.or_true, Bool.true_or]
  unfold g12_s28 g12_s29 g12_s30 g12_s31 g12_s32 g12_s33 g12_s34 g12_s35 g12_s18 g12_s22 g12_s19 g12_s23 g12_s24 g12_s16 g12_s3 g12_s2 g12_s20 g12_s21 g12_s4 g12_s5 g12_s6 g12_s7 g12_s8 g12_s9 g12_s10 g12_s11 g12_s12 g12_s13 g12_s14 g12_s15 g12_s17
  simp only [hD, hA, g193_s2, app0, len4, cast4, is241, is228, Bool.true_or, Bool.true_and]
  generalize g102_0 x0 = o
  generalize g102_1 x0 = pc
  generalize g102_2 x0 = fl
  generalize g102_3 x0 = mk
  generalize g102_4 x0 = su
  generalize g102_5 x0 = tr
  generalize g102_6 x0 = n
  have k3 : ∀ {o n : Int} {su : Bool}, decide ((4 : Nat) ≤ List.length (g190_s12 (ri [e, f, g, h]) o su n)) = true := by
    intro o n su
    unfold g190_s12
    cases (!(g190_s0 n == su)) <;> rfl
  have k3' : ∀ {o n : Int} {su : Bool}, decide ((4 : Nat) ≤ List.length (g192_s8 (ri [e, f, g, h]) o su n)) = true := by
    intro o n su
    unfold g192_s8
    cases (!(g192_4 n == su)) <;> rfl
  have c1 : ∀ a b c d : Int, g190_s15 (ri [a, b, c, d]) = true := fun _ _ _ _ => rfl
  have c2 : ∀ a b c d : Int, g192_s11 (ri [a, b, c, d]) = true := fun _ _ _ _ => rfl
  have c3 : ∀ a b c d : Int, hasRow [Kd.int IntKind.i64] (ri [a, b, c, d]) 3 0 = true := fun _ _ _ _ => rfl
  have c4 : Nat.blt 3 4 = true := rfl
  have c5 : ∀ a b c d : Int, (List.length (List.getD (ri [a, b, c, d]) 3 []) == 1) = true := fun _ _ _ _ => rfl
  have c6 : ∀ a b c d : Int, inRow [Kd.int IntKind.i64] (ri [a, b, c, d]) 3 = true := fun _ _ _ _ => rfl
  have c7 : decide ((4 : Nat) * 8 ≤ 140737488355328) = true := by decide
  have c8 : decide ((4 : Nat) ≤ 140737488355328) = true := by decide
  have hgs := sgood_eq true true a b c d e f g h o pc fl mk
  simp only [k3, k3', c1, c2, c3, c4, c5, c6, c7, c8, Bool.true_and, Bool.and_true, Bool.true_or, Bool.or_true]
  cases hg : g108_0 true (ri [a, b, c, d]) true (ri [e, f, g, h]) o pc fl mk
  · have hs := hgs.trans hg
    have z6 : g103_6 true (ri [a, b, c, d]) true (ri [e, f, g, h]) o pc fl mk n = false := by unfold g103_6; rw [hg]; rfl
    have z : ZeroW a b c d e f g h o pc fl mk su n := zeroW (by rw [hg]; rfl) (by rw [hs]; rfl)
    simp only [z6, z.i7, z.i8, z.s7, z.s8, List.length_nil, cast0, Nat.zero_add, is47z, Bool.true_or, Bool.or_true, Bool.true_and, Bool.not_false]
  · have hs := hgs.trans hg
    cases hn : g142_0 n 0 1023
    · have z6 : g103_6 true (ri [a, b, c, d]) true (ri [e, f, g, h]) o pc fl mk n = false := by unfold g103_6; rw [hg, hn]; rfl
      have z : ZeroW a b c d e f g h o pc fl mk su n := zeroW (by rw [hg, hn]; rfl) (by rw [hs, in_eq, hn]; rfl)
      simp only [z6, z.i7, z.i8, z.s7, z.s8, List.length_nil, cast0, Nat.zero_add, is47z, Bool.true_or, Bool.or_true, Bool.true_and, Bool.not_false]
    · have z := with_ok (su := su) hg hn
      obtain ⟨l1, l2, l3, l4, l5, l6, l7, l8, l9⟩ := law_good (su := su) (tr := tr) hg hn
      have st1 : g105_0 true (ri [a, b, c, d]) true (ri [e, f, g, h]) o pc fl mk su tr = g1194_0 fl mk su tr := by unfold g105_0; rw [hg]; rfl
      have y := with_ok (su := St n) l1 l3
      have k4 : ∀ {o n : Int} {su : Bool} {h : Int}, decide ((4 : Nat) ≤ List.length (g190_s12 (ri [e, f, g, h]) o su n)) = true := by
        intro o n su h
        unfold g190_s12
        cases (!(g190_s0 n == su)) <;> rfl
      have s4 : ∀ a b c d : Int, Option.isSome (L47_0 5 true (ri [a, b, c, d]) true (ri [a, b, c, d]) 4 0) = true := fun a b c d => (same4 true true a b c d).2
      have n5 : 4 + 1 = 5 := rfl
      simp only [z.i7, z.i8, z.i0, z.i1, z.i2, z.i3, z.i4, z.i5, z.s7, z.s8, st1, y.i7, y.i8, l4, l5, len4, cast4, n5, s4, is241, k4, c1, c3, c4, c5, c6, c7, Bool.true_and, Bool.and_true, Bool.true_or, Bool.or_true]
theorem pureL (x0 x1 : List Row) (h0 : bytesOk x0 = true) (_h1 : bytesOk x1 = true) : g12_0 x0 x1 = true := pure12 x0 x1 h0
end Go.Proofs.YtckjibiolfapiaaStatus
