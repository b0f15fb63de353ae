/- Places: the plain law. -/
import Derived.Test.YtckjibiolfapiaaZqPlacesQ
import Derived.Test.YtckjibiolfapiaaZqList
set_option linter.unusedVariables false
set_option linter.unusedSimpArgs false
namespace Go.Proofs.YtckjibiolfapiaaPlaces
open Go Go.Zq
set_option maxHeartbeats 4000000
set_option maxRecDepth 100000

/-! Draws of registers: four numbers each. -/
abbrev RL (k : Nat) (D A x0 : List Row) (p s i : Int) := L188_0 k [] [] D A x0 p s 0 0 0 0 false false 0 0 0 7 true false i
theorem regs_y {a b c d e f g h : Int} {x0 : List Row} {p s i : Int} (hb : bytesOk x0 = true) (hp : okTo 4 p = true) (hi : i = 0 ∨ i = 1 ∨ i = 2 ∨ i = 3) :
    y188_0 [] [] (ri [a, b, c, d]) (ri [e, f, g, h]) x0 p s 0 0 0 0 false false 0 0 0 7 true false i = true := by
  have h2 : okTo 2 p = true := okTo_le hp (by decide)
  have h3 : okTo 2 (p + 1) = true := okTo_add (u := 1) (v := 2) (w := 4) hp ⟨by decide, by decide⟩ (by decide)
  rcases hi with rfl | rfl | rfl | rfl <;> (unfold y188_0; rw [hb, h2, h3]; rfl)
theorem regs_step (k : Nat) {D A x0 : List Row} {p s i : Int} (hy : y188_0 [] [] D A x0 p s 0 0 0 0 false false 0 0 0 7 true false i = true) (hi : i < 4) :
    ∃ v u s', RL (k + 1) D A x0 p s i = RL k (D.set i.toNat [.lit (.int .i64 v)]) (A.set i.toNat [.lit (.int .i64 u)]) x0 (p + 1 + 1) s' (IntKind.wrap .i64 (i + 1)) := by
  have hz : z188_0 [] [] D A x0 p s 0 0 0 0 false false 0 0 0 7 true false i = false := by
    unfold z188_0
    rw [decide_eq_true hi]; rfl
  simp only [RL, L188_0, hy, hz, cond_true, cond_false]
  exact ⟨_, _, _, rfl⟩
theorem regs_end (k : Nat) {D A x0 : List Row} {p s : Int} : RL (k + 1) D A x0 p s 4 = some ([], [], D, A, x0, p, s, 0, 0, 0, 0, false, false, 0, 0, 0, 7, true, false, 4) := by
  have hy : y188_0 [] [] D A x0 p s 0 0 0 0 false false 0 0 0 7 true false 4 = true := by
    unfold y188_0
    exact Bool.or_true _
  simp only [RL, L188_0, hy, cond_true]
  rfl
theorem regs_loop {x0 : List Row} {p s : Int} (hb : bytesOk x0 = true) (hp : okTo 20 p = true) :
    ∃ a b c d e f g h s' : Int, RL 70 g188_s0 g188_s0 x0 p s 0 = some ([], [], ri [a, b, c, d], ri [e, f, g, h], x0, p + 8, s', 0, 0, 0, 0, false, false, 0, 0, 0, 7, true, false, 4) := by
  have q1 : okTo 4 p = true := okTo_le hp (by decide)
  have q2 : okTo 4 (p + 1 + 1) = true := by rw [okTo_iff] at *; omega
  have q3 : okTo 4 (p + 1 + 1 + 1 + 1) = true := by rw [okTo_iff] at *; omega
  have q4 : okTo 4 (p + 1 + 1 + 1 + 1 + 1 + 1) = true := by rw [okTo_iff] at *; omega
  obtain ⟨v1, u1, s1, e1⟩ := regs_step 69 (D := ri [0, 0, 0, 0]) (A := ri [0, 0, 0, 0]) (s := s) (i := 0) (regs_y hb q1 (by omega)) (by decide)
  obtain ⟨v2, u2, s2, e2⟩ := regs_step 68 (D := ri [v1, 0, 0, 0]) (A := ri [u1, 0, 0, 0]) (s := s1) (i := 1) (regs_y hb q2 (by omega)) (by decide)
  obtain ⟨v3, u3, s3, e3⟩ := regs_step 67 (D := ri [v1, v2, 0, 0]) (A := ri [u1, u2, 0, 0]) (s := s2) (i := 2) (regs_y hb q3 (by omega)) (by decide)
  obtain ⟨v4, u4, s4, e4⟩ := regs_step 66 (D := ri [v1, v2, v3, 0]) (A := ri [u1, u2, u3, 0]) (s := s3) (i := 3) (regs_y hb q4 (by omega)) (by decide)
  refine ⟨v1, v2, v3, v4, u1, u2, u3, u4, s4, ?_⟩
  refine e1.trans (e2.trans (e3.trans (e4.trans ?_)))
  have e5 : p + 1 + 1 + 1 + 1 + 1 + 1 + 1 + 1 = p + 8 := by omega
  rw [e5]
  exact regs_end 65
structure RegsD (x0 : List Row) (p s : Int) : Prop where
  isSome : (RL 70 g188_s0 g188_s0 x0 p s 0).isSome = true
  pos : g188_s1 x0 p s = p + 8
  D0 : ∃ a b c d, g188_s37 x0 p s = ri [a, b, c, d]
  A0 : ∃ a b c d, g188_s40 x0 p s = ri [a, b, c, d]
theorem regs_d {x0 : List Row} {p s : Int} (hb : bytesOk x0 = true) (hp : okTo 20 p = true) : RegsD x0 p s := by
  obtain ⟨a, b, c, d, e, f, g, h, s', hl⟩ := regs_loop (s := s) hb hp
  have w : ∀ {α : Type} (φ : List Row × List Row × List Row × List Row × List Row × Int × Int × Int × Int × Int × Int × Bool × Bool × Int × Int × Int × Int × Bool × Bool × Int → α), φ ((RL 70 g188_s0 g188_s0 x0 p s 0).getD (default, default, default, default, default, default, default, default, default, default, default, default, default, default, default, default, default, default, default, default)) = φ ([], [], ri [a, b, c, d], ri [e, f, g, h], x0, p + 8, s', 0, 0, 0, 0, false, false, 0, 0, 0, 7, true, false, 4) := fun φ => by rw [hl]; rfl
  exact ⟨by rw [hl]; rfl, w fun z => z.2.2.2.2.2.1, ⟨a, b, c, d, w fun z => z.2.2.1⟩, ⟨e, f, g, h, w fun z => z.2.2.2.1⟩⟩
theorem regs_lists {x0 : List Row} {p s : Int} (h : RegsD x0 p s) : (∃ a b c d, g188_9 x0 p s = ri [a, b, c, d]) ∧ ∃ a b c d, g188_10 x0 p s = ri [a, b, c, d] := by
  obtain ⟨a, b, c, d, h1⟩ := h.D0
  obtain ⟨e, f, g, k, h2⟩ := h.A0
  constructor
  · unfold g188_9 g188_s38
    rw [h1]
    cases g188_s19 x0 p s
    · exact ⟨_, _, _, _, rfl⟩
    · exact ⟨_, _, _, _, rfl⟩
  · unfold g188_10 g188_s42 g188_s41
    rw [h2]
    exact ⟨_, _, _, _, rfl⟩
structure RegsO (x0 : List Row) (p s : Int) : Prop where
  k1 : Option.isSome (L188_0 70 [] [] g188_s0 g188_s0 x0 p s 0 0 0 0 false false 0 0 0 7 true false 0) = true
  k2 : g188_s48 x0 p s = true
  p2 : okTo 2 (g188_s2 x0 p s) = true
  p3 : okTo 2 (g188_s3 x0 p s) = true
  p4 : okTo 1 (g188_s4 x0 p s) = true
  p5 : okTo 1 (g188_s5 x0 p s) = true
  p6 : okTo 1 (g188_s6 x0 p s) = true
  p7 : okTo 1 (g188_s7 x0 p s) = true
  p8 : okTo 1 (g188_s8 x0 p s) = true
  p9 : g188_7 x0 p s = p + 16
  k3 : (decide (0 < (↑(List.length (g188_s37 x0 p s)) : Int)) && (Nat.blt 0 (List.length (g188_s37 x0 p s)) && List.length (List.getD (g188_s37 x0 p s) 0 []) == 1) || !g188_s19 x0 p s) = true
  k4 : decide (List.length (g188_s37 x0 p s) ≤ List.length (g188_s38 x0 p s)) = true
  k5 : decide (List.length (g188_s40 x0 p s) ≤ List.length (g188_s42 x0 p s)) = true
theorem regs_o {x0 : List Row} {p s : Int} (hb : bytesOk x0 = true) (hp : okTo 20 p = true) (h : RegsD x0 p s) : RegsO x0 p s := by
  obtain ⟨a, b, c, d, h1⟩ := h.D0
  obtain ⟨e, f, g, k, h2⟩ := h.A0
  have hp' := okTo_iff.1 hp
  have e1 := h.pos
  have e2 : g188_s2 x0 p s = p + 9 := by unfold g188_s2; rw [e1]; omega
  have e3 : g188_s3 x0 p s = p + 10 := by unfold g188_s3; rw [e2]; omega
  have e4 : g188_s4 x0 p s = p + 11 := by unfold g188_s4; rw [e3]; omega
  have e5 : g188_s5 x0 p s = p + 12 := by unfold g188_s5; rw [e4]; omega
  have e6 : g188_s6 x0 p s = p + 13 := by unfold g188_s6; rw [e5]; omega
  have e7 : g188_s7 x0 p s = p + 14 := by unfold g188_s7; rw [e6]; omega
  have e8 : g188_s8 x0 p s = p + 15 := by unfold g188_s8; rw [e7]; omega
  refine ⟨h.isSome, ?_, ?_, ?_, ?_, ?_, ?_, ?_, ?_, ?_, ?_, ?_, ?_⟩
  · unfold g188_s48
    have : okTo 2 (g188_s1 x0 p s) = true := by rw [e1, okTo_iff]; omega
    rw [hb, this, h2]
    rfl
  · rw [e2, okTo_iff]; omega
  · rw [e3, okTo_iff]; omega
  · rw [e4, okTo_iff]; omega
  · rw [e5, okTo_iff]; omega
  · rw [e6, okTo_iff]; omega
  · rw [e7, okTo_iff]; omega
  · rw [e8, okTo_iff]; omega
  · unfold g188_7 g188_s33; rw [e8]; omega
  · rw [h1]; rfl
  · unfold g188_s38
    rw [h1]
    cases g188_s19 x0 p s <;> rfl
  · unfold g188_s42 g188_s41
    rw [h2]
    rfl
/-! Registers, four numbers each. -/
theorem L142 (v a b : Int) : g142_0 v a b = true ↔ a ≤ v ∧ v ≤ b := by
  unfold g142_0
  by_cases h : v ≥ a
  · rw [decide_eq_true h, cond_true, decide_eq_true_eq]; omega
  · rw [decide_eq_false h, cond_false]; simp; omega
theorem in_eq (v a b : Int) : g144_0 v a b = g142_0 v a b := rfl
theorem word_eq (v : Int) : g162_0 v = g160_0 v := rfl
/-- Is any of four no word? -/
def wd4 (a b c d : Int) : Int := bif !g160_0 a then 0 else bif !g160_0 b then 1 else bif !g160_0 c then 2 else bif !g160_0 d then 3 else 4
def w4 (a b c d : Int) : Bool := g160_0 a && g160_0 b && g160_0 c && g160_0 d
theorem find4 (q : Bool) (a b c d : Int) : L241_0 70 q (ri [a, b, c, d]) 4 0 = some (q, ri [a, b, c, d], 4, wd4 a b c d) := by
  have e : L241_0 70 q (ri [a, b, c, d]) 4 0 = (bif (!g160_0 a) || false then some (q, ri [a, b, c, d], 4, 0) else bif (!g160_0 b) || false then some (q, ri [a, b, c, d], 4, 1) else bif (!g160_0 c) || false then some (q, ri [a, b, c, d], 4, 2) else bif (!g160_0 d) || false then some (q, ri [a, b, c, d], 4, 3) else some (q, ri [a, b, c, d], 4, 4)) := by kernel_rfl
  rw [e]
  unfold wd4
  cases g160_0 a <;> cases g160_0 b <;> cases g160_0 c <;> cases g160_0 d <;> rfl
theorem areWords4 (q : Bool) (a b c d : Int) : g196_0 q (ri [a, b, c, d]) = w4 a b c d := by
  have hw : w241_0_3 70 q (ri [a, b, c, d]) 4 0 = wd4 a b c d := by
    unfold w241_0_3; rw [find4]; rfl
  have e : g196_0 q (ri [a, b, c, d]) = !decide ((bif !g160_0 (intAt (ri [a, b, c, d]) (Int.toNat (w241_0_3 70 q (ri [a, b, c, d]) 4 0)) 0) && decide (w241_0_3 70 q (ri [a, b, c, d]) 4 0 < 4) then w241_0_3 70 q (ri [a, b, c, d]) 4 0 else -1) ≥ 0) := rfl
  rw [e, hw]
  unfold wd4 w4
  cases ha : g160_0 a
  · show (!decide ((bif !g160_0 a && true then (0 : Int) else -1) ≥ 0)) = _
    rw [ha]; rfl
  cases hb : g160_0 b
  · show (!decide ((bif !g160_0 b && true then (1 : Int) else -1) ≥ 0)) = _
    rw [hb]; rfl
  cases hc : g160_0 c
  · show (!decide ((bif !g160_0 c && true then (2 : Int) else -1) ≥ 0)) = _
    rw [hc]; rfl
  cases hd : g160_0 d
  · show (!decide ((bif !g160_0 d && true then (3 : Int) else -1) ≥ 0)) = _
    rw [hd]; rfl
  · rfl
theorem sfind4 (q q' : Bool) (a b c d : Int) : L228_0 70 q (ri [a, b, c, d]) q' (ri [a, b, c, d]) 4 0 = some (q, ri [a, b, c, d], q', ri [a, b, c, d], 4, wd4 a b c d) := by
  have e : L228_0 70 q (ri [a, b, c, d]) q' (ri [a, b, c, d]) 4 0 = (bif (!g160_0 a) || false then some (q, ri [a, b, c, d], q', ri [a, b, c, d], 4, 0) else bif (!g160_0 b) || false then some (q, ri [a, b, c, d], q', ri [a, b, c, d], 4, 1) else bif (!g160_0 c) || false then some (q, ri [a, b, c, d], q', ri [a, b, c, d], 4, 2) else bif (!g160_0 d) || false then some (q, ri [a, b, c, d], q', ri [a, b, c, d], 4, 3) else some (q, ri [a, b, c, d], q', ri [a, b, c, d], 4, 4)) := by kernel_rfl
  rw [e]
  unfold wd4
  cases g160_0 a <;> cases g160_0 b <;> cases g160_0 c <;> cases g160_0 d <;> rfl
theorem four4 (q : Bool) (a b c d : Int) : g228_0 q (ri [a, b, c, d]) = w4 a b c d := by
  have hw : w228_0_5 70 q (ri [a, b, c, d]) q (ri [a, b, c, d]) 4 0 = wd4 a b c d := by
    unfold w228_0_5; rw [sfind4]; rfl
  have e : g228_0 q (ri [a, b, c, d]) = bif !g160_0 (intAt (ri [a, b, c, d]) (Int.toNat (w228_0_5 70 q (ri [a, b, c, d]) q (ri [a, b, c, d]) 4 0)) 0) && decide (w228_0_5 70 q (ri [a, b, c, d]) q (ri [a, b, c, d]) 4 0 < 4) then false else true := rfl
  rw [e, hw]
  unfold wd4 w4
  cases ha : g160_0 a
  · show (bif !g160_0 a && true then false else true) = _
    rw [ha]; rfl
  cases hb : g160_0 b
  · show (bif !g160_0 b && true then false else true) = _
    rw [hb]; rfl
  cases hc : g160_0 c
  · show (bif !g160_0 c && true then false else true) = _
    rw [hc]; rfl
  cases hd : g160_0 d
  · show (bif !g160_0 d && true then false else true) = _
    rw [hd]; rfl
  · exact cond_eq_true_of _
where
  cond_eq_true_of (x : Bool) : (bif x && false then false else true) = true := by cases x <;> rfl
theorem same4 (q q' : Bool) (a b c d : Int) : g47_0 q (ri [a, b, c, d]) q' (ri [a, b, c, d]) = true ∧ Option.isSome (L47_0 5 q (ri [a, b, c, d]) q' (ri [a, b, c, d]) 4 0) = true := by
  have hl : L47_0 5 q (ri [a, b, c, d]) q' (ri [a, b, c, d]) 4 0 = some (q, ri [a, b, c, d], q', ri [a, b, c, d], 4, 4) := by
    have e : L47_0 5 q (ri [a, b, c, d]) q' (ri [a, b, c, d]) 4 0 = (bif (a != a) || false then some (q, ri [a, b, c, d], q', ri [a, b, c, d], 4, 0) else bif (b != b) || false then some (q, ri [a, b, c, d], q', ri [a, b, c, d], 4, 1) else bif (c != c) || false then some (q, ri [a, b, c, d], q', ri [a, b, c, d], 4, 2) else bif (d != d) || false then some (q, ri [a, b, c, d], q', ri [a, b, c, d], 4, 3) else some (q, ri [a, b, c, d], q', ri [a, b, c, d], 4, 4)) := by kernel_rfl
    rw [e]
    simp
  refine ⟨?_, by rw [hl]; rfl⟩
  have hw : w47_0_5 5 q (ri [a, b, c, d]) q' (ri [a, b, c, d]) 4 0 = 4 := by
    unfold w47_0_5; rw [hl]; rfl
  have e : g47_0 q (ri [a, b, c, d]) q' (ri [a, b, c, d]) = !(intAt (ri [a, b, c, d]) (Int.toNat (w47_0_5 5 q (ri [a, b, c, d]) q' (ri [a, b, c, d]) 4 0)) 0 != intAt (ri [a, b, c, d]) (Int.toNat (w47_0_5 5 q (ri [a, b, c, d]) q' (ri [a, b, c, d]) 4 0)) 0 && decide (w47_0_5 5 q (ri [a, b, c, d]) q' (ri [a, b, c, d]) 4 0 < 4)) := rfl
  rw [e, hw]
  rfl
theorem same0 (q q' : Bool) : g47_0 q [] q' [] = true := by cases q <;> cases q' <;> decide +kernel
abbrev Good (D A : List Row) (o pc f m : Int) : Bool := g108_0 true D true A o pc f m
theorem good_eq (q q' : Bool) (a b c d e f g h o pc fl mk : Int) : g108_0 q (ri [a, b, c, d]) q' (ri [e, f, g, h]) o pc fl mk = (w4 a b c d && w4 e f g h && g160_0 o && g160_0 pc && g183_0 fl && g142_0 mk 0 7) := by
  unfold g108_0
  rw [areWords4, areWords4]
  cases w4 a b c d <;> cases w4 e f g h <;> cases g160_0 o <;> cases g160_0 pc <;> cases g183_0 fl <;> rfl
theorem sgood_eq (q q' : Bool) (a b c d e f g h o pc fl mk : Int) : g191_0 q (ri [a, b, c, d]) q' (ri [e, f, g, h]) o pc fl mk = g108_0 q (ri [a, b, c, d]) q' (ri [e, f, g, h]) o pc fl mk := by
  rw [good_eq]
  unfold g191_0
  rw [four4, four4]
  show (bif bif bif bif bif w4 a b c d then w4 e f g h else false then g160_0 o else false then g160_0 pc else false then g183_0 fl else false then g142_0 mk 0 7 else false) = _
  cases w4 a b c d <;> cases w4 e f g h <;> cases g160_0 o <;> cases g160_0 pc <;> cases g183_0 fl <;> rfl
theorem sameRegs_refl (a b c d e f g h o pc fl mk : Int) (su tr : Bool) : g107_0 true (ri [a, b, c, d]) true (ri [e, f, g, h]) o pc fl mk su tr true (ri [a, b, c, d]) true (ri [e, f, g, h]) o pc fl mk su tr = true := by
  unfold g107_0
  rw [(same4 true true a b c d).1, (same4 true true e f g h).1]
  simp
theorem sameRegs_zero (o pc fl mk : Int) (su tr : Bool) : g107_0 true [] true [] o pc fl mk su tr true [] true [] o pc fl mk su tr = true := by
  unfold g107_0
  rw [same0]
  simp
theorem word_iff (v : Int) : g160_0 v = true ↔ 0 ≤ v ∧ v ≤ 65535 := L142 v 0 65535
theorem flags_iff (v : Int) : g183_0 v = true ↔ 0 ≤ v ∧ v ≤ 31 := L142 v 0 31
theorem w4_iff (a b c d : Int) : w4 a b c d = true ↔ g160_0 a = true ∧ g160_0 b = true ∧ g160_0 c = true ∧ g160_0 d = true := by
  unfold w4
  simp only [Bool.and_eq_true, and_assoc]
theorem good_iff (a b c d e f g h o pc fl mk : Int) : g108_0 true (ri [a, b, c, d]) true (ri [e, f, g, h]) o pc fl mk = true ↔ w4 a b c d = true ∧ w4 e f g h = true ∧ g160_0 o = true ∧ g160_0 pc = true ∧ (0 ≤ fl ∧ fl ≤ 31) ∧ 0 ≤ mk ∧ mk ≤ 7 := by
  rw [good_eq]
  simp only [Bool.and_eq_true, and_assoc, flags_iff, L142]
/-! Places and parts of registers. -/
theorem m65535 (z : Int) : IntKind.wrap IntKind.i64 (↑(BitVec.toNat (BitVec.ofInt 64 z &&& BitVec.ofInt 64 65535)) : Int) = z % 65536 := mask_at z 16 (by decide)
def mergeOk (q w : Nat) : Bool := ((256 * q + w) &&& 18446744073709551360 == 256 * q) && ((256 * q + w) &&& 65280 == 256 * q) && (w ||| 256 * q == 256 * q + w) && (256 * q ||| w == 256 * q + w)
theorem merge_all : ((List.range 256).all fun q => (List.range 256).all fun w => mergeOk q w) = true := by decide +kernel
theorem merge_at {q w : Nat} (hq : q < 256) (hw : w < 256) : (256 * q + w) &&& 18446744073709551360 = 256 * q ∧ (256 * q + w) &&& 65280 = 256 * q ∧ w ||| 256 * q = 256 * q + w ∧ 256 * q ||| w = 256 * q + w := by
  have h := List.all_eq_true.1 (List.all_eq_true.1 merge_all q (List.mem_range.2 hq)) w (List.mem_range.2 hw)
  unfold mergeOk at h
  simp only [Bool.and_eq_true, beq_iff_eq] at h
  exact ⟨h.1.1.1, h.1.1.2, h.1.2, h.2⟩
theorem toNat_i {D : Nat} (h : D < 18446744073709551616) : BitVec.toNat (BitVec.ofInt 64 (D : Int)) = D := by
  rw [BitVec.toNat_ofInt]; omega
theorem put_byte {d v : Int} (d0 : 0 ≤ d) (d1 : d ≤ 65535) (v0 : 0 ≤ v) (v1 : v ≤ 255) :
    IntKind.wrap IntKind.i64 (↑(BitVec.toNat (BitVec.ofInt 64 v ||| BitVec.ofInt 64 (IntKind.wrap IntKind.i64 (↑(BitVec.toNat (BitVec.ofInt 64 d &&& ~~~BitVec.ofInt 64 255)) : Int)))) : Int) = d / 256 * 256 + v ∧
    IntKind.wrap IntKind.i64 (↑(BitVec.toNat (BitVec.ofInt 64 (IntKind.wrap IntKind.i64 (↑(BitVec.toNat (BitVec.ofInt 64 d &&& BitVec.ofInt 64 65280)) : Int)) ||| BitVec.ofInt 64 v)) : Int) = d / 256 * 256 + v := by
  obtain ⟨q, hq⟩ : ∃ q : Nat, d / 256 = q := ⟨(d / 256).toNat, by omega⟩
  obtain ⟨w, hw⟩ : ∃ w : Nat, d % 256 = w := ⟨(d % 256).toNat, by omega⟩
  obtain ⟨u, rfl⟩ : ∃ u : Nat, v = u := ⟨v.toNat, by omega⟩
  have hd : d = ((256 * q + w : Nat) : Int) := by omega
  have hq1 : q < 256 := by omega
  have hw1 : w < 256 := by omega
  have hu1 : u < 256 := by omega
  obtain ⟨m1, m2, -, -⟩ := merge_at hq1 hw1
  obtain ⟨-, -, m3, m4⟩ := merge_at hq1 hu1
  have n255 : BitVec.toNat (~~~BitVec.ofInt 64 255) = 18446744073709551360 := by decide
  have n65 : BitVec.toNat (BitVec.ofInt 64 65280) = 65280 := by decide
  have wr : ∀ z : Nat, z < 65536 → IntKind.wrap IntKind.i64 (z : Int) = z := fun z hz => by rw [IntKind.wrap_i64]; omega
  rw [hq, hd]
  simp only [BitVec.toNat_and, BitVec.toNat_or, n255, n65, toNat_i (show 256 * q + w < 18446744073709551616 by omega), toNat_i (show u < 18446744073709551616 by omega), m1, m2, wr (256 * q) (by omega), toNat_i (show 256 * q < 18446744073709551616 by omega), m3, m4, wr (256 * q + u) (by omega)]
  constructor <;> omega
def nth4 (e f g h r : Int) : Int := if r = 0 then e else if r = 1 then f else if r = 2 then g else h
def set4 (e f g h r v : Int) : List Int := if r = 0 then [v, f, g, h] else if r = 1 then [e, v, g, h] else if r = 2 then [e, f, v, h] else [e, f, g, v]
def R4 (r : Int) : Prop := r = 0 ∨ r = 1 ∨ r = 2 ∨ r = 3
theorem r4_of {r : Int} (h : 0 ≤ r ∧ r ≤ 3) : R4 r := by unfold R4; omega
theorem at4 {r : Int} (hr : R4 r) (e f g h : Int) : intAt (ri [e, f, g, h]) (Int.toNat r) 0 = nth4 e f g h r := by
  rcases hr with rfl | rfl | rfl | rfl <;> rfl
theorem st4 {r : Int} (hr : R4 r) (e f g h v : Int) : List.set (ri [e, f, g, h]) (Int.toNat r) [T.lit (Value.int IntKind.i64 v)] = ri (set4 e f g h r v) := by
  rcases hr with rfl | rfl | rfl | rfl <;> rfl
theorem set4_ex (e f g h r v : Int) : ∃ a b c d, set4 e f g h r v = [a, b, c, d] := by
  unfold set4; split <;> (try split) <;> (try split) <;> exact ⟨_, _, _, _, rfl⟩
theorem set4_len (e f g h r v : Int) : (ri (set4 e f g h r v)).length = 4 := by
  obtain ⟨a, b, c, d, h⟩ := set4_ex e f g h r v; rw [h]; rfl
theorem nth_set {r : Int} (hr : R4 r) {e f g h v a b c d : Int} (hs : set4 e f g h r v = [a, b, c, d]) : nth4 a b c d r = v := by
  rcases hr with rfl | rfl | rfl | rfl <;> (simp only [set4, List.cons.injEq, and_true] at hs; obtain ⟨rfl, rfl, rfl, rfl⟩ := hs; rfl)
theorem set_set {r : Int} (hr : R4 r) {e f g h v a b c d : Int} (hs : set4 e f g h r v = [a, b, c, d]) : set4 a b c d r (nth4 e f g h r) = [e, f, g, h] := by
  rcases hr with rfl | rfl | rfl | rfl <;> (simp only [set4, List.cons.injEq, and_true] at hs; obtain ⟨rfl, rfl, rfl, rfl⟩ := hs; rfl)
theorem w4_nth {r : Int} (hr : R4 r) {e f g h : Int} (hw : w4 e f g h = true) : 0 ≤ nth4 e f g h r ∧ nth4 e f g h r ≤ 65535 := by
  obtain ⟨h1, h2, h3, h4⟩ := (w4_iff e f g h).1 hw
  rcases hr with rfl | rfl | rfl | rfl
  · exact (word_iff _).1 h1
  · exact (word_iff _).1 h2
  · exact (word_iff _).1 h3
  · exact (word_iff _).1 h4
theorem w4_set {r : Int} (hr : R4 r) {e f g h v a b c d : Int} (hw : w4 e f g h = true) (hv : 0 ≤ v ∧ v ≤ 65535) (hs : set4 e f g h r v = [a, b, c, d]) : w4 a b c d = true := by
  obtain ⟨h1, h2, h3, h4⟩ := (w4_iff e f g h).1 hw
  have h5 := (word_iff v).2 hv
  rw [w4_iff]
  rcases hr with rfl | rfl | rfl | rfl <;> (simp only [set4, List.cons.injEq, and_true] at hs; obtain ⟨rfl, rfl, rfl, rfl⟩ := hs; exact ⟨by assumption, by assumption, by assumption, by assumption⟩)
theorem size_iff' (s : Int) : g198_0 s = true ↔ s = 1 ∨ s = 2 := by
  unfold g198_0
  cases h : s == 1
  · simp only [cond_false, beq_iff_eq]; rw [beq_eq_false_iff_ne] at h; omega
  · simp only [cond_true, true_iff]; rw [beq_iff_eq] at h; omega
def opGood (m r x : Int) : Prop := (0 ≤ m ∧ m ≤ 7) ∧ (0 ≤ x ∧ x ≤ 65535) ∧ (5 ≤ m ∨ x = 0) ∧ (0 ≤ r ∧ r ≤ 3) ∧ (r = 0 ∨ m < 6)
theorem op_iff (m r x : Int) : g114_0 m r x = true ↔ opGood m r x := by
  have e1 := L142 m 0 7
  have e2 := word_iff x
  have e3 := L142 r 0 3
  have e4 : g203_0 m = true ↔ m = 5 ∨ m = 6 ∨ m = 7 := by
    unfold g203_0
    by_cases a : m = 5
    · subst a; simp
    · by_cases b : m = 6
      · subst b; simp
      · simp [a, b]
  unfold g114_0 opGood
  cases h1 : g142_0 m 0 7
  · rw [h1] at e1; simp only [Bool.not_false, cond_true, Bool.false_eq_true, false_iff]; simp only [Bool.false_eq_true, false_iff] at e1; omega
  · rw [h1] at e1
    cases h2 : g160_0 x
    · rw [h2] at e2; simp only [Bool.not_false, Bool.not_true, cond_true, cond_false, Bool.false_eq_true, false_iff]; simp only [Bool.false_eq_true, false_iff] at e2; omega
    · rw [h2] at e2
      cases h4 : g203_0 m
      · rw [h4] at e4
        by_cases hx : x = 0
        · subst hx
          cases h3 : g142_0 r 0 3
          · rw [h3] at e3; simp at *; omega
          · rw [h3] at e3
            by_cases hr : r = 0
            · subst hr; simp at *; omega
            · simp [hr] at *; omega
        · simp [hx] at *; omega
      · rw [h4] at e4
        cases h3 : g142_0 r 0 3
        · rw [h3] at e3; simp at *; omega
        · rw [h3] at e3
          by_cases hr : r = 0
          · subst hr; simp at *; omega
          · simp [hr] at *; omega
theorem sop_iff (m r x : Int) : g115_0 m r x = true ↔ opGood m r x := by
  have e1 : g144_0 m 0 7 = true ↔ _ := L142 m 0 7
  have e2 : g162_0 x = true ↔ _ := word_iff x
  have e3 : g144_0 r 0 3 = true ↔ _ := L142 r 0 3
  unfold g115_0 opGood g204_0
  cases h1 : g144_0 m 0 7
  · rw [h1] at e1; simp at *; omega
  · rw [h1] at e1
    cases h3 : g144_0 r 0 3
    · rw [h3] at e3; simp at *; omega
    · rw [h3] at e3
      cases h2 : g162_0 x
      · rw [h2] at e2; by_cases hm : m ≥ 6 <;> by_cases hr : r = 0 <;> simp [hm, hr] at * <;> omega
      · rw [h2] at e2
        by_cases hm : m ≥ 6 <;> by_cases hr : r = 0 <;> by_cases h5 : m ≥ 5 <;> by_cases hx : x = 0 <;> simp [hm, hr, h5, hx] at e1 e2 e3 ⊢ <;> omega
theorem op_eq (m r x : Int) : g114_0 m r x = g115_0 m r x := by
  rw [Bool.eq_iff_iff, op_iff, sop_iff]
/-! An operand's address. -/
def byOf (sz r : Int) : Int := if r = 3 then 2 else sz
def addrOf (e f g h sz m r x : Int) : Int := if m = 4 then (nth4 e f g h r - byOf sz r) % 65536 else if m = 5 then (nth4 e f g h r + x) % 65536 else if m = 6 then x else nth4 e f g h r
def newA (e f g h sz m r : Int) : List Int := if m = 3 then set4 e f g h r ((nth4 e f g h r + byOf sz r) % 65536) else if m = 4 then set4 e f g h r ((nth4 e f g h r - byOf sz r) % 65536) else [e, f, g, h]
def M5 (m : Int) : Prop := m = 2 ∨ m = 3 ∨ m = 4 ∨ m = 5 ∨ m = 6
theorem by5 {sz r : Int} : g200_s5 sz r = byOf sz r := by
  unfold g200_s5 byOf
  by_cases h : r = 3
  · simp [h]
  · rw [if_neg h, beq_eq_false_iff_ne.2 h]; rfl
theorem sby5 {sz r : Int} (hs : sz = 1 ∨ sz = 2) : g231_0 sz r = byOf sz r := by
  unfold g231_0 byOf
  by_cases h : r = 3
  · rcases hs with rfl | rfl <;> simp [h]
  · have h' : (r != 3) = true := bne_iff_ne.2 h
    rcases hs with rfl | rfl <;> (rw [if_neg h, h']; rfl)
theorem wr16 {z : Int} (h0 : -100000 ≤ z) (h1 : z ≤ 200000) : IntKind.wrap IntKind.i64 z = z := by rw [IntKind.wrap_i64]; omega
theorem byOf_rng {sz r : Int} (hs : sz = 1 ∨ sz = 2) : 1 ≤ byOf sz r ∧ byOf sz r ≤ 2 := by
  unfold byOf; split <;> omega
theorem newA_ex (e f g h sz m r : Int) : ∃ a b c d, newA e f g h sz m r = [a, b, c, d] := by
  unfold newA
  split
  · exact set4_ex _ _ _ _ _ _
  · split
    · exact set4_ex _ _ _ _ _ _
    · exact ⟨_, _, _, _, rfl⟩
theorem place_eq {e f g h sz m r x : Int} (hw : w4 e f g h = true) (hs : sz = 1 ∨ sz = 2) (hm : M5 m) (hr : R4 r) (hx : 0 ≤ x ∧ x ≤ 65535) :
    g200_0 (ri [e, f, g, h]) sz m r x = addrOf e f g h sz m r x ∧ g200_8 (ri [e, f, g, h]) sz m r = ri (newA e f g h sz m r) := by
  have hn := w4_nth hr hw
  have hb := byOf_rng (r := r) hs
  have a0 : g200_s0 (ri [e, f, g, h]) r = nth4 e f g h r := at4 hr e f g h
  have s6 : g200_s6 (ri [e, f, g, h]) sz r = ri (set4 e f g h r ((nth4 e f g h r - byOf sz r) % 65536)) := by
    unfold g200_s6
    rw [a0, by5, wr16 (z := nth4 e f g h r - byOf sz r) (by omega) (by omega), m65535, st4 hr]
  have s19 : g200_s19 (ri [e, f, g, h]) sz r = ri (set4 e f g h r ((nth4 e f g h r + byOf sz r) % 65536)) := by
    unfold g200_s19
    rw [a0, by5, wr16 (z := nth4 e f g h r + byOf sz r) (by omega) (by omega), m65535, st4 hr]
  have at6 : intAt (ri (set4 e f g h r ((nth4 e f g h r - byOf sz r) % 65536))) (Int.toNat r) 0 = (nth4 e f g h r - byOf sz r) % 65536 := by
    obtain ⟨a, b, c, d, hh⟩ := set4_ex e f g h r ((nth4 e f g h r - byOf sz r) % 65536)
    rw [hh, at4 hr, nth_set hr hh]
  have l4 : List.length (ri [e, f, g, h]) = 4 := rfl
  rcases hm with rfl | rfl | rfl | rfl | rfl
  · exact ⟨a0, rfl⟩
  · refine ⟨a0, ?_⟩
    show List.take (List.length (ri [e, f, g, h])) (g200_s19 (ri [e, f, g, h]) sz r) = _
    rw [s19, l4, take_all (set4_len _ _ _ _ _ _)]; rfl
  · refine ⟨?_, ?_⟩
    · show intAt (g200_s6 (ri [e, f, g, h]) sz r) (Int.toNat r) 0 = _
      rw [s6, at6]; rfl
    · show List.take (List.length (ri [e, f, g, h])) (g200_s6 (ri [e, f, g, h]) sz r) = _
      rw [s6, l4, take_all (set4_len _ _ _ _ _ _)]; rfl
  · refine ⟨?_, rfl⟩
    show IntKind.wrap IntKind.i64 (↑(BitVec.toNat (BitVec.ofInt 64 (IntKind.wrap IntKind.i64 (g200_s0 (ri [e, f, g, h]) r + x)) &&& BitVec.ofInt 64 65535)) : Int) = _
    rw [a0, wr16 (z := nth4 e f g h r + x) (by omega) (by omega), m65535]; rfl
  · exact ⟨rfl, rfl⟩
theorem splace_eq {e f g h sz m r x : Int} (hw : w4 e f g h = true) (hs : sz = 1 ∨ sz = 2) (hm : M5 m) (hr : R4 r) (hx : 0 ≤ x ∧ x ≤ 65535) :
    g202_6 (ri [e, f, g, h]) sz m r x = addrOf e f g h sz m r x ∧ g202_8 (ri [e, f, g, h]) sz m r = ri (newA e f g h sz m r) := by
  have hn := w4_nth hr hw
  have hb := byOf_rng (r := r) hs
  unfold g202_6 g202_8
  rw [at4 hr, sby5 hs, wr16 (z := nth4 e f g h r - byOf sz r) (by omega) (by omega), wr16 (z := nth4 e f g h r + byOf sz r) (by omega) (by omega), wr16 (z := nth4 e f g h r + x) (by omega) (by omega), m65535, m65535, m65535, st4 hr, st4 hr]
  rcases hm with rfl | rfl | rfl | rfl | rfl <;> exact ⟨rfl, rfl⟩
theorem bad_eq (a b c d e f g h o pc fl mk sz m r x : Int) : g112_s0 true (ri [a, b, c, d]) true (ri [e, f, g, h]) o pc fl mk sz m r x = g113_s0 true (ri [a, b, c, d]) true (ri [e, f, g, h]) o pc fl mk sz m r x := by
  unfold g112_s0 g113_s0
  rw [sgood_eq, ← op_eq, show g201_0 sz = g198_0 sz from rfl]
  cases g108_0 true (ri [a, b, c, d]) true (ri [e, f, g, h]) o pc fl mk
  · simp
  cases g198_0 sz
  · simp
  cases ho : g114_0 m r x
  · simp
  · have hm := ((op_iff m r x).1 ho).1
    have e1 : g199_0 m = true ↔ 2 ≤ m ∧ m ≤ 6 := L142 m 2 6
    rw [Bool.eq_iff_iff]
    by_cases h0 : m = 0
    · subst h0; simp [show g199_0 0 = false from rfl]
    by_cases h1 : m = 1
    · subst h1; simp [show g199_0 1 = false from rfl]
    by_cases h7 : m = 7
    · subst h7; simp [show g199_0 7 = false from rfl]
    · have : g199_0 m = true := e1.2 (by omega)
      simp [this, h0, h1, h7]
structure POk (a b c d e f g h o pc fl mk : Int) (su tr : Bool) (sz m r x : Int) : Prop where
  i0 : g112_0 true (ri [a, b, c, d]) true (ri [e, f, g, h]) o pc fl mk sz m r x = o
  i1 : g112_1 true (ri [a, b, c, d]) true (ri [e, f, g, h]) o pc fl mk sz m r x = pc
  i2 : g112_2 true (ri [a, b, c, d]) true (ri [e, f, g, h]) o pc fl mk sz m r x = fl
  i3 : g112_3 true (ri [a, b, c, d]) true (ri [e, f, g, h]) o pc fl mk sz m r x = mk
  i4 : g112_4 true (ri [a, b, c, d]) true (ri [e, f, g, h]) o pc fl mk su sz m r x = su
  i5 : g112_5 true (ri [a, b, c, d]) true (ri [e, f, g, h]) o pc fl mk tr sz m r x = tr
  i6 : g112_6 true (ri [a, b, c, d]) true (ri [e, f, g, h]) o pc fl mk sz m r x = addrOf e f g h sz m r x
  i7 : g112_7 true (ri [a, b, c, d]) true (ri [e, f, g, h]) o pc fl mk sz m r x = true
  i8 : g112_8 true (ri [a, b, c, d]) true (ri [e, f, g, h]) o pc fl mk sz m r x = ri [a, b, c, d]
  i9 : g112_9 true (ri [a, b, c, d]) true (ri [e, f, g, h]) o pc fl mk sz m r x = ri (newA e f g h sz m r)
  s0 : g113_0 true (ri [a, b, c, d]) true (ri [e, f, g, h]) o pc fl mk sz m r x = o
  s1 : g113_1 true (ri [a, b, c, d]) true (ri [e, f, g, h]) o pc fl mk sz m r x = pc
  s2 : g113_2 true (ri [a, b, c, d]) true (ri [e, f, g, h]) o pc fl mk sz m r x = fl
  s3 : g113_3 true (ri [a, b, c, d]) true (ri [e, f, g, h]) o pc fl mk sz m r x = mk
  s4 : g113_4 true (ri [a, b, c, d]) true (ri [e, f, g, h]) o pc fl mk su sz m r x = su
  s5 : g113_5 true (ri [a, b, c, d]) true (ri [e, f, g, h]) o pc fl mk tr sz m r x = tr
  s6 : g113_6 true (ri [a, b, c, d]) true (ri [e, f, g, h]) o pc fl mk sz m r x = addrOf e f g h sz m r x
  s7 : g113_7 true (ri [a, b, c, d]) true (ri [e, f, g, h]) o pc fl mk sz m r x = true
  s8 : g113_8 true (ri [a, b, c, d]) true (ri [e, f, g, h]) o pc fl mk sz m r x = ri [a, b, c, d]
  s9 : g113_9 true (ri [a, b, c, d]) true (ri [e, f, g, h]) o pc fl mk sz m r x = ri (newA e f g h sz m r)
  good : g108_0 true (ri [a, b, c, d]) true (ri [e, f, g, h]) o pc fl mk = true
  w : w4 e f g h = true
  hs : sz = 1 ∨ sz = 2
  hm : M5 m
  hr : R4 r
  ho : opGood m r x
theorem place_good {a b c d e f g h o pc fl mk sz m r x : Int} {su tr : Bool} (hb : g112_s0 true (ri [a, b, c, d]) true (ri [e, f, g, h]) o pc fl mk sz m r x = false) : POk a b c d e f g h o pc fl mk su tr sz m r x := by
  have hb2 := (bad_eq a b c d e f g h o pc fl mk sz m r x).symm.trans hb
  have hh := hb
  unfold g112_s0 at hh
  cases hg : g108_0 true (ri [a, b, c, d]) true (ri [e, f, g, h]) o pc fl mk
  · rw [hg] at hh; simp at hh
  cases hsz : g198_0 sz
  · rw [hg, hsz] at hh; simp at hh
  cases hop : g114_0 m r x
  · rw [hg, hsz, hop] at hh; simp at hh
  have hme : g199_0 m = true := by rw [hg, hsz, hop] at hh; simpa using hh
  have w := ((good_iff a b c d e f g h o pc fl mk).1 hg).2.1
  have hs := (size_iff' sz).1 hsz
  have ho := (op_iff m r x).1 hop
  have hm2 : 2 ≤ m ∧ m ≤ 6 := (L142 m 2 6).1 hme
  have hm : M5 m := by unfold M5; omega
  have hr : R4 r := r4_of ho.2.2.2.1
  obtain ⟨p1, p2⟩ := place_eq w hs hm hr ho.2.1
  obtain ⟨q1, q2⟩ := splace_eq w hs hm hr ho.2.1
  obtain ⟨a', b', c', d', hn⟩ := newA_ex e f g h sz m r
  refine ⟨?_, ?_, ?_, ?_, ?_, ?_, ?_, ?_, ?_, ?_, ?_, ?_, ?_, ?_, ?_, ?_, ?_, ?_, ?_, ?_, hg, w, hs, hm, hr, ho⟩
  · unfold g112_0; rw [hb]; rfl
  · unfold g112_1; rw [hb]; rfl
  · unfold g112_2; rw [hb]; rfl
  · unfold g112_3; rw [hb]; rfl
  · unfold g112_4; rw [hb]; rfl
  · unfold g112_5; rw [hb]; rfl
  · unfold g112_6; rw [hb, p1]; rfl
  · unfold g112_7; rw [hb]; rfl
  · unfold g112_8; rw [hb]; rfl
  · unfold g112_9; rw [hb, p2]; rfl
  · unfold g113_0; rw [hb2]; rfl
  · unfold g113_1; rw [hb2]; rfl
  · unfold g113_2; rw [hb2]; rfl
  · unfold g113_3; rw [hb2]; rfl
  · unfold g113_4; rw [hb2]; rfl
  · unfold g113_5; rw [hb2]; rfl
  · unfold g113_6 g193_s2; rw [hb2, show [] ++ ri [e, f, g, h] = ri [e, f, g, h] from rfl, q1]; rfl
  · unfold g113_7; rw [hb2]; rfl
  · unfold g113_8; rw [hb2]; rfl
  · unfold g113_9 g113_s13 g193_s2; rw [hb2, show [] ++ ri [e, f, g, h] = ri [e, f, g, h] from rfl, q2, List.take_length]; rfl
structure PBad (a b c d e f g h o pc fl mk : Int) (su tr : Bool) (sz m r x : Int) : Prop where
  i0 : g112_0 true (ri [a, b, c, d]) true (ri [e, f, g, h]) o pc fl mk sz m r x = 0
  i1 : g112_1 true (ri [a, b, c, d]) true (ri [e, f, g, h]) o pc fl mk sz m r x = 0
  i2 : g112_2 true (ri [a, b, c, d]) true (ri [e, f, g, h]) o pc fl mk sz m r x = 0
  i3 : g112_3 true (ri [a, b, c, d]) true (ri [e, f, g, h]) o pc fl mk sz m r x = 0
  i4 : g112_4 true (ri [a, b, c, d]) true (ri [e, f, g, h]) o pc fl mk su sz m r x = false
  i5 : g112_5 true (ri [a, b, c, d]) true (ri [e, f, g, h]) o pc fl mk tr sz m r x = false
  i6 : g112_6 true (ri [a, b, c, d]) true (ri [e, f, g, h]) o pc fl mk sz m r x = 0
  i7 : g112_7 true (ri [a, b, c, d]) true (ri [e, f, g, h]) o pc fl mk sz m r x = false
  i8 : g112_8 true (ri [a, b, c, d]) true (ri [e, f, g, h]) o pc fl mk sz m r x = []
  i9 : g112_9 true (ri [a, b, c, d]) true (ri [e, f, g, h]) o pc fl mk sz m r x = []
  s0 : g113_0 true (ri [a, b, c, d]) true (ri [e, f, g, h]) o pc fl mk sz m r x = 0
  s1 : g113_1 true (ri [a, b, c, d]) true (ri [e, f, g, h]) o pc fl mk sz m r x = 0
  s2 : g113_2 true (ri [a, b, c, d]) true (ri [e, f, g, h]) o pc fl mk sz m r x = 0
  s3 : g113_3 true (ri [a, b, c, d]) true (ri [e, f, g, h]) o pc fl mk sz m r x = 0
  s4 : g113_4 true (ri [a, b, c, d]) true (ri [e, f, g, h]) o pc fl mk su sz m r x = false
  s5 : g113_5 true (ri [a, b, c, d]) true (ri [e, f, g, h]) o pc fl mk tr sz m r x = false
  s6 : g113_6 true (ri [a, b, c, d]) true (ri [e, f, g, h]) o pc fl mk sz m r x = 0
  s7 : g113_7 true (ri [a, b, c, d]) true (ri [e, f, g, h]) o pc fl mk sz m r x = false
  s8 : g113_8 true (ri [a, b, c, d]) true (ri [e, f, g, h]) o pc fl mk sz m r x = []
  s9 : g113_9 true (ri [a, b, c, d]) true (ri [e, f, g, h]) o pc fl mk sz m r x = []
theorem place_bad {a b c d e f g h o pc fl mk sz m r x : Int} {su tr : Bool} (hb : g112_s0 true (ri [a, b, c, d]) true (ri [e, f, g, h]) o pc fl mk sz m r x = true) : PBad a b c d e f g h o pc fl mk su tr sz m r x := by
  have hb2 := (bad_eq a b c d e f g h o pc fl mk sz m r x).symm.trans hb
  constructor
  · unfold g112_0; rw [hb]; rfl
  · unfold g112_1; rw [hb]; rfl
  · unfold g112_2; rw [hb]; rfl
  · unfold g112_3; rw [hb]; rfl
  · unfold g112_4; rw [hb]; rfl
  · unfold g112_5; rw [hb]; rfl
  · unfold g112_6; rw [hb]; rfl
  · unfold g112_7; rw [hb]; rfl
  · unfold g112_8; rw [hb]; rfl
  · unfold g112_9; rw [hb]; rfl
  · unfold g113_0; rw [hb2]; rfl
  · unfold g113_1; rw [hb2]; rfl
  · unfold g113_2; rw [hb2]; rfl
  · unfold g113_3; rw [hb2]; rfl
  · unfold g113_4; rw [hb2]; rfl
  · unfold g113_5; rw [hb2]; rfl
  · unfold g113_6; rw [hb2]; rfl
  · unfold g113_7; rw [hb2]; rfl
  · unfold g113_8; rw [hb2]; rfl
  · unfold g113_9; rw [hb2]; rfl
theorem back_by {e f g h sz r : Int} (hw : w4 e f g h = true) (hs : sz = 1 ∨ sz = 2) (hr : R4 r) {a' b' c' d' : Int} (hn : newA e f g h sz 3 r = [a', b', c', d']) :
    w4 a' b' c' d' = true ∧ addrOf a' b' c' d' sz 4 r 0 = addrOf e f g h sz 3 r 0 ∧ newA a' b' c' d' sz 4 r = [e, f, g, h] := by
  have n := w4_nth hr hw
  have b := byOf_rng (r := r) hs
  have hn' : set4 e f g h r ((nth4 e f g h r + byOf sz r) % 65536) = [a', b', c', d'] := hn
  have h1 : nth4 a' b' c' d' r = (nth4 e f g h r + byOf sz r) % 65536 := nth_set hr hn'
  have h2 : (nth4 a' b' c' d' r - byOf sz r) % 65536 = nth4 e f g h r := by rw [h1]; omega
  refine ⟨w4_set hr hw (by omega) hn', h2, ?_⟩
  show set4 a' b' c' d' r ((nth4 a' b' c' d' r - byOf sz r) % 65536) = _
  rw [h2]
  exact set_set hr hn'
/-- The first part. -/
theorem partA (x0 : List Row) (h0 : bytesOk x0 = true) : g13_s14 x0 = false ∧ (g13_s16 x0 && g13_s1 x0) = false ∧ g13_s21 x0 = false ∧ g13_s23 x0 = false := by
  obtain ⟨⟨a, b, c, d, hD⟩, e, f, g, h, hA⟩ := regs_lists (regs_d (s := 0) h0 (by decide : okTo 20 0 = true))
  have hD : g111_s13 x0 = ri [a, b, c, d] := hD
  have hA : g111_s15 x0 = ri [e, f, g, h] := hA
  unfold g13_s14 g13_s3 g13_s16 g13_s15 g13_s21 g13_s17 g13_s23 g13_s20 g13_s22 g13_s18 g13_s19 g13_s1 g13_s2 g13_s4 g13_s5 g13_s6 g13_s7 g13_s8 g13_s9 g13_s10 g13_s11 g13_s12 g13_s13
  simp only [hD, hA]
  generalize g111_0 x0 = o
  generalize g111_1 x0 = pc
  generalize g111_2 x0 = fl
  generalize g111_3 x0 = mk
  generalize g111_4 x0 = su
  generalize g111_5 x0 = tr
  generalize g111_6 x0 = sz
  generalize g111_7 x0 = m
  generalize g111_8 x0 = r
  generalize g111_9 x0 = x
  have ho := op_eq m r x
  cases hb : g112_s0 true (ri [a, b, c, d]) true (ri [e, f, g, h]) o pc fl mk sz m r x
  · have P := place_good (su := su) (tr := tr) hb
    obtain ⟨a', b', c', d', hn⟩ := newA_ex e f g h sz m r
    have hop := P.ho
    have w' : w4 a' b' c' d' = true := by
      have n := w4_nth P.hr P.w
      have bb := byOf_rng (r := r) P.hs
      rcases P.hm with rfl | rfl | rfl | rfl | rfl
      · obtain ⟨rfl, rfl, rfl, rfl⟩ : e = a' ∧ f = b' ∧ g = c' ∧ h = d' := by simpa [newA] using hn
        exact P.w
      · exact w4_set P.hr P.w (v := (nth4 e f g h r + byOf sz r) % 65536) (by omega) hn
      · exact w4_set P.hr P.w (v := (nth4 e f g h r - byOf sz r) % 65536) (by omega) hn
      · obtain ⟨rfl, rfl, rfl, rfl⟩ : e = a' ∧ f = b' ∧ g = c' ∧ h = d' := by simpa [newA] using hn
        exact P.w
      · obtain ⟨rfl, rfl, rfl, rfl⟩ : e = a' ∧ f = b' ∧ g = c' ∧ h = d' := by simpa [newA] using hn
        exact P.w
    have g1 := (good_iff _ _ _ _ _ _ _ _ _ _ _ _).1 P.good
    have good' : g108_0 true (ri [a, b, c, d]) true (ri [a', b', c', d']) o pc fl mk = true := (good_iff _ _ _ _ _ _ _ _ _ _ _ _).2 ⟨g1.1, w', g1.2.2⟩
    simp only [P.i0, P.i1, P.i2, P.i3, P.i4, P.i5, P.i6, P.i7, P.i8, P.i9, P.s0, P.s1, P.s2, P.s3, P.s4, P.s5, P.s6, P.s7, P.s8, P.s9, hn, good', ho, sameRegs_refl, (same4 true true a b c d).1, bne_self_eq_false, beq_self_eq_true, Bool.not_true, cond_true, cond_false, Bool.and_true, Bool.false_and, true_and]
    by_cases h3 : m = 3
    · subst h3
      obtain ⟨k1, k2, k3⟩ := back_by P.w P.hs P.hr hn
      have e3 : addrOf e f g h sz 3 r x = addrOf e f g h sz 3 r 0 := rfl
      have hb4 : g112_s0 true (ri [a, b, c, d]) true (ri [a', b', c', d']) o pc fl mk sz 4 r 0 = false := by
        unfold g112_s0
        have o4 : g114_0 4 r 0 = true := (op_iff 4 r 0).2 ⟨by decide, by decide, .inr rfl, hop.2.2.2.1, .inr (by decide)⟩
        rw [good', (size_iff' sz).2 P.hs, o4]
        rfl
      have Q := place_good (su := su) (tr := tr) hb4
      simp only [Q.i0, Q.i1, Q.i2, Q.i3, Q.i4, Q.i5, Q.i6, Q.i7, Q.i8, Q.i9, k2, k3, e3, sameRegs_refl, bne_self_eq_false, beq_self_eq_true, Bool.not_true, cond_true, cond_false, Bool.and_true, Bool.false_and, Bool.and_false, and_self]
    · have h3' : (m == 3) = false := beq_eq_false_iff_ne.2 h3
      by_cases h4 : m = 4
      · subst h4
        simp
      · have : newA e f g h sz m r = [e, f, g, h] := by unfold newA; rw [if_neg h3, if_neg h4]
        rw [this] at hn
        simp only [List.cons.injEq, and_true] at hn
        obtain ⟨rfl, rfl, rfl, rfl⟩ := hn
        rw [h3', sameRegs_refl]
        simp
  · have P := place_bad (su := su) (tr := tr) hb
    simp only [P.i0, P.i1, P.i2, P.i3, P.i4, P.i5, P.i6, P.i7, P.i8, P.i9, P.s0, P.s1, P.s2, P.s3, P.s4, P.s5, P.s6, P.s7, P.s8, P.s9, ho, sameRegs_zero, bne_self_eq_false, beq_self_eq_true, Bool.not_true, cond_false, Bool.and_false, and_self]
/-! A register of data. -/
def dataOf (sz v n : Int) : Int := if sz = 1 then n / 256 * 256 + v else v
theorem put_eq {a b c d sz r v : Int} (hw : w4 a b c d = true) (hr : R4 r) (hv : sz = 1 ∧ 0 ≤ v ∧ v ≤ 255 ∨ sz = 2 ∧ 0 ≤ v ∧ v ≤ 65535) :
    g205_0 (ri [a, b, c, d]) sz r v = ri (set4 a b c d r (dataOf sz v (nth4 a b c d r))) ∧ g206_6 (ri [a, b, c, d]) sz r v = ri (set4 a b c d r (dataOf sz v (nth4 a b c d r))) := by
  have n := w4_nth hr hw
  unfold g205_0 g206_6
  rw [at4 hr]
  rcases hv with ⟨rfl, v0, v1⟩ | ⟨rfl, v0, v1⟩
  · obtain ⟨p1, p2⟩ := put_byte n.1 n.2 v0 v1
    rw [p1, p2]
    exact ⟨st4 hr .., st4 hr ..⟩
  · exact ⟨st4 hr .., st4 hr ..⟩
theorem isVal_iff (sz v : Int) : g151_0 sz v = true ↔ sz = 1 ∧ 0 ≤ v ∧ v ≤ 255 ∨ sz = 2 ∧ 0 ≤ v ∧ v ≤ 65535 := by
  unfold g151_0
  cases hs : g198_0 sz
  · have : ¬ (sz = 1 ∨ sz = 2) := fun h => by rw [(size_iff' sz).2 h] at hs; simp at hs
    simp only [cond_false, Bool.false_eq_true, false_iff]
    omega
  · rcases (size_iff' sz).1 hs with rfl | rfl
    · show g142_0 v 0 255 = true ↔ _
      rw [L142]; omega
    · show g142_0 v 0 65535 = true ↔ _
      rw [L142]; omega
theorem lim_b (n : Int) (h : n = 1 ∨ n = 2) : g220_0 n = g218_0 n := by
  rcases h with rfl | rfl
  · exact (by decide +kernel : g220_0 1 = g218_0 1)
  · exact (by decide +kernel : g220_0 2 = g218_0 2)
theorem sval_eq (sz v : Int) : g181_0 sz v = g151_0 sz v := by
  unfold g181_0 g151_0
  rw [show g201_0 sz = g198_0 sz from rfl]
  cases hs : g198_0 sz
  · simp only [cond_false]
  · simp only [cond_true]
    rw [lim_b sz ((size_iff' sz).1 hs)]
    exact in_eq ..
theorem pbad_eq (a b c d e f g h o pc fl mk sz r v : Int) : g117_s0 true (ri [a, b, c, d]) true (ri [e, f, g, h]) o pc fl mk sz r v = g118_s0 true (ri [a, b, c, d]) true (ri [e, f, g, h]) o pc fl mk sz r v := by
  unfold g117_s0 g118_s0
  rw [sgood_eq, sval_eq, in_eq]
  cases g108_0 true (ri [a, b, c, d]) true (ri [e, f, g, h]) o pc fl mk <;> cases g142_0 r 0 3 <;> cases g151_0 sz v <;> rfl
theorem ext_same (m : Int) : g120_0 m = g121_0 m ∧ g120_1 m = g121_1 m := by
  refine ⟨?_, rfl⟩
  unfold g120_0 g121_0 g204_0 g203_0
  rw [in_eq]
  cases hm : g142_0 m 0 7
  · rfl
  · have := (L142 m 0 7).1 hm
    have : m = 0 ∨ m = 1 ∨ m = 2 ∨ m = 3 ∨ m = 4 ∨ m = 5 ∨ m = 6 ∨ m = 7 := by omega
    rcases this with rfl | rfl | rfl | rfl | rfl | rfl | rfl | rfl <;> rfl
theorem partB (x1 : List Row) (h1 : bytesOk x1 = true) : g13_s30 x1 = false ∧ g13_s32 x1 = true := by
  have hp : okTo 20 1 = true := by decide
  obtain ⟨⟨a, b, c, d, hD⟩, e, f, g, h, hA⟩ := regs_lists (regs_d (s := g148_2 x1 0 0) h1 hp)
  have hD : g116_9 x1 = ri [a, b, c, d] := hD
  have hA : g116_10 x1 = ri [e, f, g, h] := hA
  obtain ⟨ne0, ne1⟩ := ext_same (g119_0 x1)
  unfold g13_s30 g13_s25 g13_s32 g13_s31 g13_s24 g13_s26 g13_s27 g13_s28 g13_s29
  simp only [hD, hA, ne0, ne1, beq_self_eq_true, Bool.not_true]
  generalize g116_0 x1 = o
  generalize g116_1 x1 = pc
  generalize g116_2 x1 = fl
  generalize g116_3 x1 = mk
  generalize g116_4 x1 = su
  generalize g116_5 x1 = tr
  generalize g116_6 x1 = sz
  generalize g116_7 x1 = r
  generalize g116_8 x1 = v
  have hb2 := pbad_eq a b c d e f g h o pc fl mk sz r v
  unfold g117_6 g118_6 g117_0 g117_1 g117_2 g117_3 g117_4 g117_5 g117_7 g117_8 g118_0 g118_1 g118_2 g118_3 g118_4 g118_5 g118_7 g118_8 g193_s2 g193_s0
  rw [← hb2]
  cases hb : g117_s0 true (ri [a, b, c, d]) true (ri [e, f, g, h]) o pc fl mk sz r v
  · have hh := hb
    unfold g117_s0 at hh
    cases hg : g108_0 true (ri [a, b, c, d]) true (ri [e, f, g, h]) o pc fl mk
    · rw [hg] at hh; simp at hh
    cases hr : g142_0 r 0 3
    · rw [hg, hr] at hh; simp at hh
    cases hv : g151_0 sz v
    · rw [hg, hr, hv] at hh; simp at hh
    have w := ((good_iff a b c d e f g h o pc fl mk).1 hg).1
    have r4 := r4_of ((L142 r 0 3).1 hr)
    have hv' := (isVal_iff sz v).1 hv
    obtain ⟨p1, p2⟩ := put_eq w r4 hv'
    obtain ⟨a', b', c', d', hn⟩ := set4_ex a b c d r (dataOf sz v (nth4 a b c d r))
    have n := w4_nth r4 w
    have hnn := nth_set r4 hn
    simp only [cond_false, List.nil_append, p1, p2, hn, sameRegs_refl, Bool.not_false, Bool.not_true, beq_self_eq_true, at4 r4, hnn, true_and]
    have top : g32_0 sz = if sz = 1 then 256 else 65536 := by
      unfold g32_0
      rcases hv' with ⟨rfl, _⟩ | ⟨rfl, _⟩ <;> rfl
    rw [top]
    unfold dataOf
    rcases hv' with ⟨rfl, v0, v1⟩ | ⟨rfl, v0, v1⟩
    · have e1 : Int.tmod (nth4 a b c d r / 256 * 256 + v) 256 = v := by rw [Int.tmod_eq_emod_of_nonneg (by omega)]; omega
      have e2 : Int.tdiv (nth4 a b c d r / 256 * 256 + v) 256 = Int.tdiv (nth4 a b c d r) 256 := by rw [Int.tdiv_eq_ediv_of_nonneg (by omega), Int.tdiv_eq_ediv_of_nonneg (by omega)]; omega
      simp [e1, e2]
    · have e1 : Int.tmod v 65536 = v := by rw [Int.tmod_eq_emod_of_nonneg (by omega)]; omega
      have e2 : Int.tdiv v 65536 = Int.tdiv (nth4 a b c d r) 65536 := by rw [Int.tdiv_eq_ediv_of_nonneg (by omega), Int.tdiv_eq_ediv_of_nonneg (by omega)]; omega
      simp [e1, e2]
  · simp only [cond_true, sameRegs_zero, Bool.not_true, Bool.not_false, beq_self_eq_true, cond_false, and_self]
theorem pureL (x0 x1 : List Row) (h0 : bytesOk x0 = true) (h1 : bytesOk x1 = true) : g13_0 x0 x1 = true := by
  obtain ⟨a1, a2, a3, a4⟩ := partA x0 h0
  obtain ⟨b1, b2⟩ := partB x1 h1
  unfold g13_0
  rw [a1, a2, a3, a4, b1, b2]
  simp
theorem is241 (q : Bool) (a b c d : Int) : Option.isSome (L241_0 70 q (ri [a, b, c, d]) 4 0) = true := by rw [find4]; rfl
theorem is228 (q : Bool) (a b c d : Int) : Option.isSome (L228_0 70 q (ri [a, b, c, d]) q (ri [a, b, c, d]) 4 0) = true := by rw [sfind4]; rfl
theorem is47z : Option.isSome (L47_0 1 true [] true [] 0 0) = true := by rfl
theorem len4 (a b c d : Int) : List.length (ri [a, b, c, d]) = 4 := rfl
theorem cast4 : ((4 : Nat) : Int) = 4 := rfl
theorem cast0 : ((0 : Nat) : Int) = 0 := rfl
theorem app0 (l : List Row) : [] ++ l = l := rfl
theorem s47 (a b c d : Int) : Option.isSome (L47_0 5 true (ri [a, b, c, d]) true (ri [a, b, c, d]) 4 0) = true := (same4 true true a b c d).2
structure Idx (a b c d r : Int) : Prop where
  d0 : decide (0 ≤ r) = true
  d1 : r < 4
  hr : hasRow [Kd.int IntKind.i64] (ri [a, b, c, d]) (Int.toNat r) 0 = true
  bl : Nat.blt (Int.toNat r) 4 = true
  l1 : (List.length (List.getD (ri [a, b, c, d]) (Int.toNat r) []) == 1) = true
  ir : inRow [Kd.int IntKind.i64] (ri [a, b, c, d]) r = true
theorem idx4 {r : Int} (h : R4 r) (a b c d : Int) : Idx a b c d r := by
  rcases h with rfl | rfl | rfl | rfl <;> exact ⟨rfl, by decide, rfl, rfl, rfl, rfl⟩
theorem lt4 {r : Int} (h : R4 r) (a b c d : Int) : g200_s21 (ri [a, b, c, d]) r = true ∧ g200_s22 (ri [a, b, c, d]) r = true ∧ g200_s23 (ri [a, b, c, d]) r = true := by
  have i := idx4 h a b c d
  have e : g200_s21 (ri [a, b, c, d]) r = true := by unfold g200_s21; simp only [len4, cast4, i.d0, i.d1, decide_true, Bool.and_self]
  refine ⟨e, by unfold g200_s22; exact i.hr, ?_⟩
  unfold g200_s23
  simp only [e, len4, i.bl, i.l1, Bool.and_self]
theorem set_row {r : Int} (h : R4 r) (a b c d sz : Int) : hasRow [Kd.int IntKind.i64] (g200_s6 (ri [a, b, c, d]) sz r) (Int.toNat r) 0 = true := by
  unfold g200_s6
  rw [st4 h]
  obtain ⟨a', b', c', d', e⟩ := set4_ex a b c d r (IntKind.wrap IntKind.i64 (↑(BitVec.toNat (BitVec.ofInt 64 (IntKind.wrap IntKind.i64 (g200_s0 (ri [a, b, c, d]) r - g200_s5 sz r)) &&& BitVec.ofInt 64 65535)) : Int))
  rw [e]
  exact (idx4 h a' b' c' d').hr
theorem p24 (l m : List Row) : g200_s24 l m = true := by unfold g200_s24; simp
theorem p25 (l : List Row) : g200_s25 l = true := by unfold g200_s25; simp
theorem p26 (l m : List Row) : g200_s26 l m = true := by unfold g200_s26; simp [p24, p25]
theorem p19 (l : List Row) (a b : Int) : decide (List.length l ≤ List.length (g200_s19 l a b)) = true := by unfold g200_s19; simp
theorem p6 (l : List Row) (a b : Int) : decide (List.length l ≤ List.length (g200_s6 l a b)) = true := by unfold g200_s6; simp
theorem l19 (a b c d sz r : Int) : 4 ≤ List.length (g200_s19 (ri [a, b, c, d]) sz r) := by unfold g200_s19; simp [ri_len]
theorem l6 (a b c d sz r : Int) : 4 ≤ List.length (g200_s6 (ri [a, b, c, d]) sz r) := by unfold g200_s6; simp [ri_len]
theorem q13_ (l : List Row) : g112_s13 l = true := by unfold g112_s13; simp
theorem q14_ (l : List Row) : g112_s14 l = true := by unfold g112_s14; simp
theorem r15 (l : List Row) : g113_s15 l = true := by unfold g113_s15; simp
theorem r16 (l : List Row) : g113_s16 l = true := by unfold g113_s16; simp
theorem r20 (l m : List Row) (a b c : Int) : g113_s20 l m a b c = true := by unfold g113_s20; simp
theorem r13 (l : List Row) (a b c : Int) : decide (List.length (g202_8 (g193_s2 l) a b c) ≤ List.length (g113_s13 l a b c)) = true := by unfold g113_s13; simp
theorem r21 {r : Int} (h : R4 r) (a b c d e f g i sz m : Int) : g113_s21 (ri [a, b, c, d]) (ri [e, f, g, i]) sz m r = true := by
  have x := idx4 h e f g i
  unfold g113_s21 g113_s19
  rw [r15, r16, r20]
  unfold g193_s0 g193_s2
  simp only [app0, len4, cast4, x.d0, x.d1, decide_true, x.hr, x.bl, x.l1, Bool.and_true, Bool.true_and, Bool.true_or, Nat.le_refl, decide_true, Bool.and_self]
  simp
theorem okP {x0 : List Row} {s : Int} : ∀ p : Int, (p = 18 ∨ p = 19) → okTo 2 p = true ∧ okTo 1 p = true ∧ okTo 1 (p + 1) = true ∧ okTo 1 (p + 1 + 1) = true ∧ okTo 1 (p + 1 + 1 + 1) = true ∧ okTo 1 (p + 1 + 1 + 1 + 1) = true := by
  rintro p (rfl | rfl) <;> decide
theorem c7 : decide ((4 : Nat) * 8 ≤ 140737488355328) = true := by decide
theorem c8 : decide ((4 : Nat) ≤ 140737488355328) = true := by decide
theorem u12 (l : List Row) : g117_s12 l = true := by unfold g117_s12; simp
theorem u13 (l : List Row) : g117_s13 l = true := by unfold g117_s13; simp
theorem u16 (l : List Row) : g117_s16 l = true := by unfold g117_s16; simp
theorem u17 (l : List Row) : g117_s17 l = true := by unfold g117_s17; simp
theorem v12 (l : List Row) : g118_s12 l = true := by unfold g118_s12; simp
theorem v13 (l : List Row) : g118_s13 l = true := by unfold g118_s13; simp
theorem okB (x1 : List Row) (h1 : bytesOk x1 = true) : g13_s47 x1 = true := by
  have hp : okTo 20 1 = true := by decide
  have hd := regs_d (s := g148_2 x1 0 0) h1 hp
  have ho := regs_o (s := g148_2 x1 0 0) h1 hp hd
  obtain ⟨⟨a, b, c, d, hD⟩, e, f, g, h, hA⟩ := regs_lists hd
  have hD : g116_9 x1 = ri [a, b, c, d] := hD
  have hA : g116_10 x1 = ri [e, f, g, h] := hA
  have o1 : okTo 1 (g188_7 x1 1 (g148_2 x1 0 0)) = true := by rw [ho.p9]; decide
  have o7 : okTo 7 (g188_7 x1 1 (g148_2 x1 0 0) + 1) = true := by rw [ho.p9]; decide
  unfold g13_s47 g13_s41 g13_s40
  rw [h1, ho.k1, ho.k2, ho.p2, ho.p3, ho.p4, ho.p5, ho.p6, ho.p7, ho.p8, ho.k3, ho.k4, ho.k5, o1, o7]
  unfold g13_s42 g13_s43 g13_s44 g13_s45 g13_s46 g13_s30 g13_s25 g13_s31 g13_s24 g13_s26 g13_s27 g13_s28 g13_s29
  simp only [hD, hA, len4, cast4, is241, is228, c7, c8, u12, u13, u16, u17, v12, v13, Bool.true_and, Bool.and_true, Bool.true_or, Bool.or_true, decide_true, Bool.and_self]
  generalize g116_0 x1 = o
  generalize g116_1 x1 = pc
  generalize g116_2 x1 = fl
  generalize g116_3 x1 = mk
  generalize g116_4 x1 = su
  generalize g116_5 x1 = tr
  generalize g116_6 x1 = sz
  generalize g116_7 x1 = r
  generalize g116_8 x1 = v
  have hb2 := pbad_eq a b c d e f g h o pc fl mk sz r v
  unfold g117_6 g118_6 g117_7 g117_8 g118_7 g118_8 g118_s15 g118_s16 g117_s15 g118_s15 g193_s2 g193_s0
  rw [← hb2]
  cases hb : g117_s0 true (ri [a, b, c, d]) true (ri [e, f, g, h]) o pc fl mk sz r v
  · have hh := hb
    unfold g117_s0 at hh
    cases hg : g108_0 true (ri [a, b, c, d]) true (ri [e, f, g, h]) o pc fl mk
    · rw [hg] at hh; simp at hh
    cases hr : g142_0 r 0 3
    · rw [hg, hr] at hh; simp at hh
    cases hv : g151_0 sz v
    · rw [hg, hr, hv] at hh; simp at hh
    have w := ((good_iff a b c d e f g h o pc fl mk).1 hg).1
    have r4 := r4_of ((L142 r 0 3).1 hr)
    have hv' := (isVal_iff sz v).1 hv
    obtain ⟨p1, p2⟩ := put_eq w r4 hv'
    obtain ⟨a', b', c', d', hn⟩ := set4_ex a b c d r (dataOf sz v (nth4 a b c d r))
    have i := idx4 r4 a b c d
    have i' := idx4 r4 a' b' c' d'
    have nz : (g32_0 sz != 0) = true := by
      rcases hv' with ⟨rfl, _⟩ | ⟨rfl, _⟩ <;> decide +kernel
    have n5 : 4 + 1 = 5 := rfl
    simp only [cond_false, app0, p1, p2, hn, len4, cast4, n5, s47, i.d0, i.d1, decide_true, i.hr, i.bl, i.l1, i.ir, i'.ir, nz, Bool.true_and, Bool.and_true, Bool.true_or, Bool.or_true, Bool.and_self]
  · simp only [cond_true, List.length_nil, cast0, Nat.zero_add, is47z, Bool.not_true, Bool.not_false, Bool.true_and, Bool.and_true, Bool.true_or, Bool.or_true, Bool.and_self]
theorem okL (x0 x1 : List Row) (h0 : bytesOk x0 = true) (h1 : bytesOk x1 = true) : ∃ ok, q13 [.one (.imm true 1 x0), .one (.imm true 1 x1)] [] = some ((SV.one (T.lit (Value.bool (g13_0 x0 x1))), []), ok) ∧ ok = true := by
  refine ⟨_, rfl, ?_⟩
  have hd := regs_d (s := 0) h0 (by decide : okTo 20 0 = true)
  have ho := regs_o (s := 0) h0 (by decide : okTo 20 0 = true) hd
  obtain ⟨⟨a, b, c, d, hD⟩, e, f, g, h, hA⟩ := regs_lists hd
  have hD : g111_s13 x0 = ri [a, b, c, d] := hD
  have hA : g111_s15 x0 = ri [e, f, g, h] := hA
  have e6 : g111_s6 x0 = 16 := by unfold g111_s6; rw [ho.p9]; rfl
  have e9 : g111_s9 x0 = 17 := by unfold g111_s9; rw [e6]; rfl
  have o6 : okTo 2 (g111_s6 x0) = true := by rw [e6]; decide
  have o9 : okTo 2 (g111_s9 x0) = true := by rw [e9]; decide
  have e20 : g111_s20 x0 = 18 ∨ g111_s20 x0 = 19 := by
    unfold g111_s20 g111_s19; rw [e9]
    cases decide (g111_s18 x0 < 6)
    · exact .inl rfl
    · exact .inr rfl
  obtain ⟨t2, t1, t3, t4, t5, t6⟩ := okP (x0 := x0) (s := 0) _ e20
  have b20 : g197_s20 x0 (g111_s9 x0) (g148_2 x0 (g111_s6 x0) (g111_s7 x0)) = true := by
    unfold g197_s20; rw [h0]
    simp only [Bool.true_and, Bool.and_true]
    exact t3
  have b21 : g197_s21 x0 (g111_s9 x0) (g148_2 x0 (g111_s6 x0) (g111_s7 x0)) = true := by
    unfold g197_s21; rw [h0]
    simp only [Bool.true_and, Bool.and_true]
    exact t4
  have b22 : g197_s22 x0 (g111_s9 x0) (g148_2 x0 (g111_s6 x0) (g111_s7 x0)) = true := by
    unfold g197_s22; rw [h0]
    simp only [Bool.true_and, Bool.and_true]
    exact t5
  unfold g111_s17
  rw [h0, ho.k1, ho.k2, ho.p2, ho.p3, ho.p4, ho.p5, ho.p6, ho.p7, ho.p8, ho.k3, ho.k4, ho.k5, o6, o9, t2, b20, b21, b22, t6, t1, okB x1 h1]
  unfold g13_s36 g13_s37 g13_s38 g13_s39 g13_s35 g13_s34 g13_s16 g13_s15 g13_s17 g13_s20 g13_s22 g13_s18 g13_s19 g13_s3 g13_s1 g13_s2 g13_s4 g13_s5 g13_s6 g13_s7 g13_s8 g13_s9 g13_s12 g13_s13
  simp only [hD, hA, len4, cast4, is241, is228, c7, c8, p24, p25, p26, p19, p6, q13_, q14_, r20, r13, Bool.true_and, Bool.and_true, Bool.true_or, Bool.or_true, Bool.and_self]
  generalize g111_0 x0 = o
  generalize g111_1 x0 = pc
  generalize g111_2 x0 = fl
  generalize g111_3 x0 = mk
  generalize g111_6 x0 = sz
  generalize g111_7 x0 = m
  generalize g111_8 x0 = r
  generalize g111_9 x0 = x
  have bs := bad_eq a b c d e f g h o pc fl mk sz m r x
  rw [← bs]
  cases hb : g112_s0 true (ri [a, b, c, d]) true (ri [e, f, g, h]) o pc fl mk sz m r x
  · have P := place_good (su := false) (tr := false) hb
    obtain ⟨a', b', c', d', hn⟩ := newA_ex e f g h sz m r
    obtain ⟨l1, l2, l3⟩ := lt4 P.hr e f g h
    obtain ⟨l1', l2', l3'⟩ := lt4 P.hr a' b' c' d'
    have w1 := set_row P.hr e f g h sz
    have w2 := set_row P.hr a' b' c' d' sz
    have y := r21 P.hr a b c d e f g h sz m
    have n5 : 4 + 1 = 5 := rfl
    simp only [P.i7, P.i8, P.i9, P.s7, P.s8, P.s9, hn, l1, l2, l3, l1', l2', l3', w1, w2, y, l19, l6, decide_true, len4, cast4, n5, s47, is241, c7, Bool.true_and, Bool.and_true, Bool.true_or, Bool.or_true, Bool.and_self, Bool.not_true, Bool.or_false]
    by_cases h3 : m = 3
    · subst h3
      have w' : w4 a' b' c' d' = true := by
        have n := w4_nth P.hr P.w
        have bb := byOf_rng (r := r) P.hs
        exact w4_set P.hr P.w (v := (nth4 e f g h r + byOf sz r) % 65536) (by omega) hn
      have g1 := (good_iff _ _ _ _ _ _ _ _ _ _ _ _).1 P.good
      have good' : g108_0 true (ri [a, b, c, d]) true (ri [a', b', c', d']) o pc fl mk = true := (good_iff _ _ _ _ _ _ _ _ _ _ _ _).2 ⟨g1.1, w', g1.2.2⟩
      obtain ⟨k1, k2, k3⟩ := back_by P.w P.hs P.hr hn
      have hb4 : g112_s0 true (ri [a, b, c, d]) true (ri [a', b', c', d']) o pc fl mk sz 4 r 0 = false := by
        unfold g112_s0
        have o4 : g114_0 4 r 0 = true := (op_iff 4 r 0).2 ⟨by decide, by decide, .inr rfl, P.ho.2.2.2.1, .inr (by decide)⟩
        rw [good', (size_iff' sz).2 P.hs, o4]
        rfl
      have Q := place_good (su := false) (tr := false) hb4
      have m33 : ((3 : Int) == 3) = true := rfl
      have e0 : g112_0 true (ri [a, b, c, d]) true (ri [e, f, g, h]) o pc fl mk sz 3 r x = o := P.i0
      simp only [m33, P.i0, P.i1, P.i2, P.i3, Q.i7, Q.i8, Q.i9, k3, len4, cast4, n5, s47, is241, c7, Bool.true_and, Bool.and_true, Bool.true_or, Bool.or_true, Bool.and_self, Bool.not_true, Bool.or_false]
    · have h3' : (m == 3) = false := beq_eq_false_iff_ne.2 h3
      by_cases h4 : m = 4
      · subst h4
        simp
      · have : newA e f g h sz m r = [e, f, g, h] := by unfold newA; rw [if_neg h3, if_neg h4]
        rw [this] at hn
        simp only [List.cons.injEq, and_true] at hn
        obtain ⟨rfl, rfl, rfl, rfl⟩ := hn
        simp only [h3', len4, cast4, n5, s47, Bool.true_and, Bool.and_true, Bool.true_or, Bool.or_true, Bool.and_self, Bool.not_true, Bool.not_false, Bool.or_false]
  · have P := place_bad (su := false) (tr := false) hb
    simp only [P.i7, P.i8, P.i9, P.s7, P.s8, P.s9, List.length_nil, cast0, Nat.zero_add, is47z, Bool.not_true, Bool.not_false, Bool.true_and, Bool.and_true, Bool.true_or, Bool.or_true, Bool.and_self]
end Go.Proofs.YtckjibiolfapiaaPlaces
