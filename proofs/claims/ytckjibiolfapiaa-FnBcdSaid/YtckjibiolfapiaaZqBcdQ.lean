/- What each function gives, and that it does. Printed. -/
import Derived.Test.YtckjibiolfapiaaZqTabBcd
import Derived.Test.YtckjibiolfapiaaZqCur
import Derived.KernelRfl
import Derived.Test.YtckjibiolfapiaaZqBcdR
namespace Go.Proofs.YtckjibiolfapiaaBcd
open Go Go.Zq
set_option maxRecDepth 100000
/-! (*spec.l1Cur).next -/
theorem e217 (x0_0 : List Row) (x0_1 : Int) (x0_2 : Int) : fnT qnil [(7, [.int .i64]), (11, [.imm 1]), (17, [.imm 1]), (21, [.int .i64]), (22, [.int .u8]), (23, [.int .u8]), (28, [.int .i64]), (36, [.int .u64]), (47, [.int .i64]), (51, [.imm 1]), (58, [.int .u64])] [] 0 F217 [.one (.ptr 0 0 0)] [.box [.imm true 1 x0_0, .lit (.int .i64 x0_1), .lit (.int .u64 x0_2)]] = some ((SV.one (T.lit (Value.int IntKind.i64 (bif decide (IntKind.wrap IntKind.i64 (x0_1 + (1 : Int)) ≤ ↑(List.length x0_0)) then bif decide (x0_1 < ↑(List.length x0_0)) then IntKind.wrap IntKind.i64 (intAt x0_0 (Int.toNat x0_1) (0 : Nat)) else (0 : Int) else farOf (seedOf x0_2 (bif decide (x0_1 < ↑(List.length x0_0)) then IntKind.wrap IntKind.i64 (intAt x0_0 (Int.toNat x0_1) (0 : Nat)) else (0 : Int)))))),
      [Blk.box [T.imm true (1 : Nat) (bif decide (IntKind.wrap IntKind.i64 (x0_1 + (1 : Int)) ≤ ↑(List.length x0_0)) then x0_0 else x0_0), T.lit (Value.int IntKind.i64 (bif decide (IntKind.wrap IntKind.i64 (x0_1 + (1 : Int)) ≤ ↑(List.length x0_0)) then IntKind.wrap IntKind.i64 (x0_1 + (1 : Int)) else IntKind.wrap IntKind.i64 (x0_1 + (1 : Int)))),
        T.lit (Value.int IntKind.u64 (bif decide (IntKind.wrap IntKind.i64 (x0_1 + (1 : Int)) ≤ ↑(List.length x0_0)) then seedOf x0_2 (bif decide (x0_1 < ↑(List.length x0_0)) then IntKind.wrap IntKind.i64 (intAt x0_0 (Int.toNat x0_1) (0 : Nat)) else (0 : Int)) else seedOf x0_2 (bif decide (x0_1 < ↑(List.length x0_0)) then IntKind.wrap IntKind.i64 (intAt x0_0 (Int.toNat x0_1) (0 : Nat)) else (0 : Int))))]]),
      (inRow [Kd.int IntKind.u8] x0_0 x0_1 && true || !decide (x0_1 < ↑(List.length x0_0))) && true && true) := by kernel_rfl
def q217 : List SV → List Blk → Option ((SV × List Blk) × Bool)
  | [.one (.ptr 0 0 0)], [.box [.imm true 1 x0_0, .lit (.int .i64 x0_1), .lit (.int .u64 x0_2)]] => some ((SV.one (T.lit (Value.int IntKind.i64 (nextV x0_0 x0_1 x0_2))), [Blk.box [T.imm true 1 x0_0, T.lit (Value.int IntKind.i64 (x0_1 + 1)), T.lit (Value.int IntKind.u64 (nextS x0_0 x0_1 x0_2))]]), okTo 0 x0_1 && bytesOk x0_0)
  | _, _ => none
theorem t217 (args : List SV) (hp : List Blk) (r : SV × List Blk) (h : q217 args hp = some (r, true)) : R 217 args hp = some r := by
  unfold q217 at h
  split at h
  · exact R_fn at217 0 (fnT_run qnil_ok ((e217 _ _ _).trans (next_raw h)))
  · simp at h
noncomputable def Q217 : Qt := qcons 217 q217 qnil
theorem Q217_ok : QOk R Q217 := qcons_ok t217 qnil_ok
/-! (*spec.l1Cur).pick -/
def g141_0 (x0_0 : List Row) (x0_1 : Int) (x0_2 : Int) (x1 : Int) : Int := bif decide (x1 ≤ (1 : Int)) then (0 : Int) else Int.tmod (bif decide (x1 > (200 : Int)) then IntKind.wrap IntKind.i64 (IntKind.wrap IntKind.i64 (nextV x0_0 x0_1 x0_2 * (256 : Int)) + nextV x0_0 (x0_1 + (1 : Int)) (nextS x0_0 x0_1 x0_2)) else nextV x0_0 x0_1 x0_2) x1
def r141_1 (x0_0 : List Row) (x1 : Int) : List (List T) := bif decide (x1 ≤ (1 : Int)) then x0_0 else bif decide (x1 > (200 : Int)) then x0_0 else x0_0
theorem c141_1 (x0_0 : List Row) (x1 : Int) : r141_1 x0_0 x1 = x0_0 := by simp only [r141_1, Bool.cond_self, bif_tf, bif_ft, Bool.not_not]
def r141_2 (x0_1 : Int) (x1 : Int) : Int := bif decide (x1 ≤ (1 : Int)) then x0_1 else bif decide (x1 > (200 : Int)) then x0_1 + (1 : Int) + (1 : Int) else x0_1 + (1 : Int)
def g141_2 (x1 : Int) : Int := bif decide (x1 ≤ (1 : Int)) then (0 : Int) else bif decide (x1 > (200 : Int)) then (1 : Int) + (1 : Int) else (1 : Int)
theorem b141_2 (x1 : Int) : bd (g141_2 x1) 2 := by
  unfold g141_2
  exact (bd_cond (u := 0) (v := 2) (w := 2) ⟨by decide, by decide⟩ (bd_cond (u := 2) (v := 1) (w := 2) (bd_add (u := 1) (v := 1) (w := 2) ⟨by decide, by decide⟩ ⟨by decide, by decide⟩ (by decide)) ⟨by decide, by decide⟩ (by decide) (by decide)) (by decide) (by decide))
theorem c141_2 (x0_1 : Int) (x1 : Int) : r141_2 x0_1 x1 = x0_1 + g141_2 x1 := by simp only [r141_2, g141_2, bif_p1 x0_1, bif_p2 x0_1, bif_p3 x0_1, Int.add_assoc, Bool.cond_self]
def g141_3 (x0_0 : List Row) (x0_1 : Int) (x0_2 : Int) (x1 : Int) : Int := bif decide (x1 ≤ (1 : Int)) then x0_2 else bif decide (x1 > (200 : Int)) then nextS x0_0 (x0_1 + (1 : Int)) (nextS x0_0 x0_1 x0_2) else nextS x0_0 x0_1 x0_2
theorem k141 (x0_0 : List Row) (x0_1 : Int) (x0_2 : Int) (x1 : Int) (h : (bytesOk x0_0 && (okTo (1 : Int) x0_1 && (x1 != (0 : Int) || decide (x1 ≤ (1 : Int))))) = true) : (okTo (0 : Int) x0_1 && bytesOk x0_0 && true && ((okTo (0 : Int) (x0_1 + (1 : Int)) && bytesOk x0_0 && true || !decide (x1 > (200 : Int))) && true && (x1 != (0 : Int) && true && true)) || decide (x1 ≤ (1 : Int))) = true := by
  obtain ⟨h0, h⟩ := Bool.and_eq_true_iff.1 h
  obtain ⟨h1, h⟩ := Bool.and_eq_true_iff.1 h
  have p0 : (okTo (0 : Int) x0_1) = true := (okTo_le (v := 0) h1 (by decide))
  have p1 : (okTo (0 : Int) (x0_1 + (1 : Int))) = true := (okTo_add (u := 1) (v := 0) (w := 1) (okTo_le (v := 1) h1 (by decide)) ⟨by decide, by decide⟩ (by decide))
  simpa only [h0, p0, p1, Bool.and_true, Bool.true_and, Bool.or_true, Bool.true_or, Bool.or_false, Bool.false_or, Bool.and_self, Bool.cond_self, Bool.not_true, Bool.not_false, Bool.false_and, Bool.and_false] using h
theorem d141 (x0_0 : List Row) (x0_1 : Int) (x0_2 : Int) (x1 : Int) : fnT Q217 [] [] 0 F141 [.one (.ptr 0 0 0), .one (.lit (.int .i64 x1))] [.box [.imm true 1 x0_0, .lit (.int .i64 x0_1), .lit (.int .u64 x0_2)]] = some ((SV.one (T.lit (Value.int IntKind.i64 (g141_0 x0_0 x0_1 x0_2 x1))), [Blk.box [T.imm true (1 : Nat) (r141_1 x0_0 x1), T.lit (Value.int IntKind.i64 (r141_2 x0_1 x1)), T.lit (Value.int IntKind.u64 (g141_3 x0_0 x0_1 x0_2 x1))]]), okTo (0 : Int) x0_1 && bytesOk x0_0 && true && ((okTo (0 : Int) (x0_1 + (1 : Int)) && bytesOk x0_0 && true || !decide (x1 > (200 : Int))) && true && (x1 != (0 : Int) && true && true)) || decide (x1 ≤ (1 : Int))) := by kernel_rfl
theorem e141 (x0_0 : List Row) (x0_1 : Int) (x0_2 : Int) (x1 : Int) : fnT Q217 [] [] 0 F141 [.one (.ptr 0 0 0), .one (.lit (.int .i64 x1))] [.box [.imm true 1 x0_0, .lit (.int .i64 x0_1), .lit (.int .u64 x0_2)]] = some ((SV.one (T.lit (Value.int IntKind.i64 (g141_0 x0_0 x0_1 x0_2 x1))), [Blk.box [T.imm true (1 : Nat) x0_0, T.lit (Value.int IntKind.i64 (x0_1 + g141_2 x1)), T.lit (Value.int IntKind.u64 (g141_3 x0_0 x0_1 x0_2 x1))]]), okTo (0 : Int) x0_1 && bytesOk x0_0 && true && ((okTo (0 : Int) (x0_1 + (1 : Int)) && bytesOk x0_0 && true || !decide (x1 > (200 : Int))) && true && (x1 != (0 : Int) && true && true)) || decide (x1 ≤ (1 : Int))) := by rw [d141, c141_1, c141_2]
def q141 : List SV → List Blk → Option ((SV × List Blk) × Bool)
  | [.one (.ptr 0 0 0), .one (.lit (.int .i64 x1))], [.box [.imm true 1 x0_0, .lit (.int .i64 x0_1), .lit (.int .u64 x0_2)]] => some ((SV.one (T.lit (Value.int IntKind.i64 (g141_0 x0_0 x0_1 x0_2 x1))), [Blk.box [T.imm true (1 : Nat) x0_0, T.lit (Value.int IntKind.i64 (x0_1 + g141_2 x1)), T.lit (Value.int IntKind.u64 (g141_3 x0_0 x0_1 x0_2 x1))]]), bytesOk x0_0 && (okTo (1 : Int) x0_1 && (x1 != (0 : Int) || decide (x1 ≤ (1 : Int)))))
  | _, _ => none
theorem t141 (args : List SV) (hp : List Blk) (r : SV × List Blk) (h : q141 args hp = some (r, true)) : R 141 args hp = some r := by
  unfold q141 at h
  split at h
  · rename_i x1 x0_0 x0_1 x0_2; exact R_fn at141 0 (fnT_run Q217_ok (okTrans (e141 x0_0 x0_1 x0_2 x1) (k141 x0_0 x0_1 x0_2 x1) h))
  · simp at h
noncomputable def Q141 : Qt := qcons 141 q141 Q217
theorem Q141_ok : QOk R Q141 := qcons_ok t141 Q217_ok
theorem pick_rng {rows : List Row} (hb : bytesOk rows = true) {p : Int} (h0 : 0 ≤ p) (s : Int) {n : Int} (hn : 2 ≤ n) : 0 ≤ g141_0 rows p s n ∧ g141_0 rows p s n < n := by
  unfold g141_0
  have e1 : decide (n ≤ (1 : Int)) = false := by simp; omega
  rw [e1, cond_false]
  have r1 := nextV_rng hb h0 s
  have r2 := nextV_rng hb (show 0 ≤ p + 1 by omega) (nextS rows p s)
  have hx : 0 ≤ (bif decide (n > (200 : Int)) then IntKind.wrap IntKind.i64 (IntKind.wrap IntKind.i64 (nextV rows p s * (256 : Int)) + nextV rows (p + (1 : Int)) (nextS rows p s)) else nextV rows p s) := by
    cases decide (n > (200 : Int))
    · exact r1.1
    · simp only [cond_true, IntKind.wrap_i64]
      omega
  exact ⟨Int.tmod_nonneg _ hx, Int.tmod_lt_of_pos _ (by omega)⟩
/-! (*spec.l1Cur).among -/
def g133_0 (x0_0 : List Row) (x0_1 : Int) (x0_2 : Int) (x1 : List Row) : Int := intAt x1 (Int.toNat (g141_0 x0_0 x0_1 x0_2 ↑(List.length x1))) (0 : Nat)
def r133_1 (x0_1 : Int) (x1 : List Row) : Int := x0_1 + g141_2 ↑(List.length x1)
def g133_1 (x1 : List Row) : Int := g141_2 ↑(List.length x1)
theorem c133_1 (x0_1 : Int) (x1 : List Row) : r133_1 x0_1 x1 = x0_1 + g133_1 x1 := by simp only [r133_1, g133_1, bif_p1 x0_1, bif_p2 x0_1, bif_p3 x0_1, Int.add_assoc, Bool.cond_self]
def g133_2 (x0_0 : List Row) (x0_1 : Int) (x0_2 : Int) (x1 : List Row) : Int := g141_3 x0_0 x0_1 x0_2 ↑(List.length x1)
theorem k133 (x0_0 : List Row) (x0_1 : Int) (x0_2 : Int) (px1 : Bool) (x1 : List Row) (h : (bytesOk x0_0 && (okTo (2 : Int) x0_1 && listOk x1)) = true) : (bytesOk x0_0 && (okTo (1 : Int) x0_1 && (↑(List.length x1) != (0 : Int) || decide (↑(List.length x1) ≤ (1 : Int)))) && (inRow [Kd.int IntKind.i64] x1 (g141_0 x0_0 x0_1 x0_2 ↑(List.length x1)) && true) && true) = true := by
  obtain ⟨h0, h⟩ := Bool.and_eq_true_iff.1 h
  obtain ⟨h1, h2⟩ := Bool.and_eq_true_iff.1 h
  have hl : 2 ≤ x1.length := by simp only [listOk, Bool.and_eq_true, decide_eq_true_eq] at h2; exact h2.1
  have hp := (okTo_iff.1 h1).1
  have hr := pick_rng h0 hp x0_2 (n := (x1.length : Int)) (by omega)
  have hi := inRow_list h2 hr.1 hr.2
  have hne : ((x1.length : Int) != 0) = true := by rw [bne_iff_ne]; omega
  have h1' : okTo 1 x0_1 = true := okTo_le h1 (by decide)
  simp only [h0, h1', hi, hne, Bool.and_true, Bool.true_and, Bool.or_true, Bool.true_or]
theorem d133 (x0_0 : List Row) (x0_1 : Int) (x0_2 : Int) (px1 : Bool) (x1 : List Row) : fnT Q141 [(10, [.int .i64]), (11, [.int .i64])] [] 0 F133 [.one (.ptr 0 0 0), .one (.imm px1 1 x1)] [.box [.imm true 1 x0_0, .lit (.int .i64 x0_1), .lit (.int .u64 x0_2)]] = some ((SV.one (T.lit (Value.int IntKind.i64 (g133_0 x0_0 x0_1 x0_2 x1))), [Blk.box [T.imm true (1 : Nat) x0_0, T.lit (Value.int IntKind.i64 (r133_1 x0_1 x1)), T.lit (Value.int IntKind.u64 (g133_2 x0_0 x0_1 x0_2 x1))]]), bytesOk x0_0 && (okTo (1 : Int) x0_1 && (↑(List.length x1) != (0 : Int) || decide (↑(List.length x1) ≤ (1 : Int)))) && (inRow [Kd.int IntKind.i64] x1 (g141_0 x0_0 x0_1 x0_2 ↑(List.length x1)) && true) && true) := by kernel_rfl
theorem e133 (x0_0 : List Row) (x0_1 : Int) (x0_2 : Int) (px1 : Bool) (x1 : List Row) : fnT Q141 [(10, [.int .i64]), (11, [.int .i64])] [] 0 F133 [.one (.ptr 0 0 0), .one (.imm px1 1 x1)] [.box [.imm true 1 x0_0, .lit (.int .i64 x0_1), .lit (.int .u64 x0_2)]] = some ((SV.one (T.lit (Value.int IntKind.i64 (g133_0 x0_0 x0_1 x0_2 x1))), [Blk.box [T.imm true (1 : Nat) x0_0, T.lit (Value.int IntKind.i64 (x0_1 + g133_1 x1)), T.lit (Value.int IntKind.u64 (g133_2 x0_0 x0_1 x0_2 x1))]]), bytesOk x0_0 && (okTo (1 : Int) x0_1 && (↑(List.length x1) != (0 : Int) || decide (↑(List.length x1) ≤ (1 : Int)))) && (inRow [Kd.int IntKind.i64] x1 (g141_0 x0_0 x0_1 x0_2 ↑(List.length x1)) && true) && true) := by rw [d133, c133_1]
def q133 : List SV → List Blk → Option ((SV × List Blk) × Bool)
  | [.one (.ptr 0 0 0), .one (.imm px1 1 x1)], [.box [.imm true 1 x0_0, .lit (.int .i64 x0_1), .lit (.int .u64 x0_2)]] => some ((SV.one (T.lit (Value.int IntKind.i64 (g133_0 x0_0 x0_1 x0_2 x1))), [Blk.box [T.imm true (1 : Nat) x0_0, T.lit (Value.int IntKind.i64 (x0_1 + g133_1 x1)), T.lit (Value.int IntKind.u64 (g133_2 x0_0 x0_1 x0_2 x1))]]), bytesOk x0_0 && (okTo (2 : Int) x0_1 && listOk x1))
  | _, _ => none
theorem t133 (args : List SV) (hp : List Blk) (r : SV × List Blk) (h : q133 args hp = some (r, true)) : R 133 args hp = some r := by
  unfold q133 at h
  split at h
  · rename_i px1 x1 x0_0 x0_1 x0_2; exact R_fn at133 0 (fnT_run Q141_ok (okTrans (e133 x0_0 x0_1 x0_2 px1 x1) (k133 x0_0 x0_1 x0_2 px1 x1) h))
  · simp at h
noncomputable def Q133 : Qt := qcons 133 q133 Q141
theorem Q133_ok : QOk R Q133 := qcons_ok t133 Q141_ok
/-! spec.l2Of -/
def g145_0 (x0 : Int) : Int := IntKind.wrap IntKind.i64 ↑(BitVec.toNat (BitVec.ofInt (64 : Nat) (IntKind.wrap IntKind.i64 (IntKind.wrap IntKind.i64 (Int.tdiv x0 (10 : Int)) * (16 : Int))) ||| BitVec.ofInt (64 : Nat) (Int.tmod x0 (10 : Int))))
theorem e145 (x0 : Int) : fnT Q133 [] [] 0 F145 [.one (.lit (.int .i64 x0))] [] = some ((SV.one (T.lit (Value.int IntKind.i64 (g145_0 x0))), []), true) := by kernel_rfl
def q145 : List SV → List Blk → Option ((SV × List Blk) × Bool)
  | [.one (.lit (.int .i64 x0))], [] => some ((SV.one (T.lit (Value.int IntKind.i64 (g145_0 x0))), []), true)
  | _, _ => none
theorem t145 (args : List SV) (hp : List Blk) (r : SV × List Blk) (h : q145 args hp = some (r, true)) : R 145 args hp = some r := by
  unfold q145 at h
  split at h
  · rename_i x0; exact R_fn at145 0 (fnT_run Q133_ok ((e145 x0).trans h))
  · simp at h
noncomputable def Q145 : Qt := qcons 145 q145 Q133
theorem Q145_ok : QOk R Q145 := qcons_ok t145 Q133_ok
/-! (*spec.l1Cur).one -/
def g167_0 (x0_0 : List Row) (x0_1 : Int) (x0_2 : Int) (x1 : Int) : Bool := g141_0 x0_0 x0_1 x0_2 x1 == (0 : Int)
def r167_1 (x0_1 : Int) (x1 : Int) : Int := x0_1 + g141_2 x1
def g167_1 (x1 : Int) : Int := g141_2 x1
theorem c167_1 (x0_1 : Int) (x1 : Int) : r167_1 x0_1 x1 = x0_1 + g167_1 x1 := by simp only [r167_1, g167_1, bif_p1 x0_1, bif_p2 x0_1, bif_p3 x0_1, Int.add_assoc, Bool.cond_self]
def g167_2 (x0_0 : List Row) (x0_1 : Int) (x0_2 : Int) (x1 : Int) : Int := g141_3 x0_0 x0_1 x0_2 x1
theorem k167 (x0_0 : List Row) (x0_1 : Int) (x0_2 : Int) (x1 : Int) (h : (bytesOk x0_0 && (okTo (1 : Int) x0_1 && (x1 != (0 : Int) || decide (x1 ≤ (1 : Int))))) = true) : (bytesOk x0_0 && (okTo (1 : Int) x0_1 && (x1 != (0 : Int) || decide (x1 ≤ (1 : Int)))) && true && true) = true := by
  obtain ⟨h0, h⟩ := Bool.and_eq_true_iff.1 h
  obtain ⟨h1, h⟩ := Bool.and_eq_true_iff.1 h
  have p0 : (okTo (1 : Int) x0_1) = true := (okTo_le (v := 1) h1 (by decide))
  simpa only [h0, p0, Bool.and_true, Bool.true_and, Bool.or_true, Bool.true_or, Bool.or_false, Bool.false_or, Bool.and_self, Bool.cond_self, Bool.not_true, Bool.not_false, Bool.false_and, Bool.and_false] using h
theorem d167 (x0_0 : List Row) (x0_1 : Int) (x0_2 : Int) (x1 : Int) : fnT Q145 [] [] 0 F167 [.one (.ptr 0 0 0), .one (.lit (.int .i64 x1))] [.box [.imm true 1 x0_0, .lit (.int .i64 x0_1), .lit (.int .u64 x0_2)]] = some ((SV.one (T.lit (Value.bool (g167_0 x0_0 x0_1 x0_2 x1))), [Blk.box [T.imm true (1 : Nat) x0_0, T.lit (Value.int IntKind.i64 (r167_1 x0_1 x1)), T.lit (Value.int IntKind.u64 (g167_2 x0_0 x0_1 x0_2 x1))]]), bytesOk x0_0 && (okTo (1 : Int) x0_1 && (x1 != (0 : Int) || decide (x1 ≤ (1 : Int)))) && true && true) := by kernel_rfl
theorem e167 (x0_0 : List Row) (x0_1 : Int) (x0_2 : Int) (x1 : Int) : fnT Q145 [] [] 0 F167 [.one (.ptr 0 0 0), .one (.lit (.int .i64 x1))] [.box [.imm true 1 x0_0, .lit (.int .i64 x0_1), .lit (.int .u64 x0_2)]] = some ((SV.one (T.lit (Value.bool (g167_0 x0_0 x0_1 x0_2 x1))), [Blk.box [T.imm true (1 : Nat) x0_0, T.lit (Value.int IntKind.i64 (x0_1 + g167_1 x1)), T.lit (Value.int IntKind.u64 (g167_2 x0_0 x0_1 x0_2 x1))]]), bytesOk x0_0 && (okTo (1 : Int) x0_1 && (x1 != (0 : Int) || decide (x1 ≤ (1 : Int)))) && true && true) := by rw [d167, c167_1]
def q167 : List SV → List Blk → Option ((SV × List Blk) × Bool)
  | [.one (.ptr 0 0 0), .one (.lit (.int .i64 x1))], [.box [.imm true 1 x0_0, .lit (.int .i64 x0_1), .lit (.int .u64 x0_2)]] => some ((SV.one (T.lit (Value.bool (g167_0 x0_0 x0_1 x0_2 x1))), [Blk.box [T.imm true (1 : Nat) x0_0, T.lit (Value.int IntKind.i64 (x0_1 + g167_1 x1)), T.lit (Value.int IntKind.u64 (g167_2 x0_0 x0_1 x0_2 x1))]]), bytesOk x0_0 && (okTo (1 : Int) x0_1 && (x1 != (0 : Int) || decide (x1 ≤ (1 : Int)))))
  | _, _ => none
theorem t167 (args : List SV) (hp : List Blk) (r : SV × List Blk) (h : q167 args hp = some (r, true)) : R 167 args hp = some r := by
  unfold q167 at h
  split at h
  · rename_i x1 x0_0 x0_1 x0_2; exact R_fn at167 0 (fnT_run Q145_ok (okTrans (e167 x0_0 x0_1 x0_2 x1) (k167 x0_0 x0_1 x0_2 x1) h))
  · simp at h
noncomputable def Q167 : Qt := qcons 167 q167 Q145
theorem Q167_ok : QOk R Q167 := qcons_ok t167 Q145_ok
/-! (*spec.l1Cur).digits -/
def g134_0 (x0_0 : List Row) (x0_1 : Int) (x0_2 : Int) : Int := bif g167_0 x0_0 x0_1 x0_2 (12 : Int) then g133_0 x0_0 (x0_1 + (1 : Int)) (g167_2 x0_0 x0_1 x0_2 (12 : Int)) (ri [(-1 : Int), (10 : Int), (154 : Int), (160 : Int), (255 : Int), (256 : Int)]) else g145_0 (g141_0 x0_0 (x0_1 + (1 : Int)) (g167_2 x0_0 x0_1 x0_2 (12 : Int)) (100 : Int))
def r134_1 (x0_0 : List Row) (x0_1 : Int) (x0_2 : Int) : List (List T) := bif g167_0 x0_0 x0_1 x0_2 (12 : Int) then x0_0 else x0_0
theorem c134_1 (x0_0 : List Row) (x0_1 : Int) (x0_2 : Int) : r134_1 x0_0 x0_1 x0_2 = x0_0 := by simp only [r134_1, Bool.cond_self, bif_tf, bif_ft, Bool.not_not]
def r134_2 (x0_0 : List Row) (x0_1 : Int) (x0_2 : Int) : Int := bif g167_0 x0_0 x0_1 x0_2 (12 : Int) then x0_1 + (1 : Int) + (1 : Int) else x0_1 + (1 : Int) + (1 : Int)
def g134_2 : Int := (1 : Int) + (1 : Int)
theorem b134_2 : bd (g134_2) 2 := by
  unfold g134_2
  exact (bd_add (u := 1) (v := 1) (w := 2) ⟨by decide, by decide⟩ ⟨by decide, by decide⟩ (by decide))
theorem c134_2 (x0_0 : List Row) (x0_1 : Int) (x0_2 : Int) : r134_2 x0_0 x0_1 x0_2 = x0_1 + g134_2 := by simp only [r134_2, g134_2, bif_p1 x0_1, bif_p2 x0_1, bif_p3 x0_1, Int.add_assoc, Bool.cond_self]
def g134_3 (x0_0 : List Row) (x0_1 : Int) (x0_2 : Int) : Int := bif g167_0 x0_0 x0_1 x0_2 (12 : Int) then g133_2 x0_0 (x0_1 + (1 : Int)) (g167_2 x0_0 x0_1 x0_2 (12 : Int)) (ri [(-1 : Int), (10 : Int), (154 : Int), (160 : Int), (255 : Int), (256 : Int)]) else g141_3 x0_0 (x0_1 + (1 : Int)) (g167_2 x0_0 x0_1 x0_2 (12 : Int)) (100 : Int)
theorem k134 (x0_0 : List Row) (x0_1 : Int) (x0_2 : Int) (h : (bytesOk x0_0 && okTo (3 : Int) x0_1) = true) : (bytesOk x0_0 && (okTo (1 : Int) x0_1 && true) && true && ((bytesOk x0_0 && (okTo (2 : Int) (x0_1 + (1 : Int)) && true) && true && true || !g167_0 x0_0 x0_1 x0_2 (12 : Int)) && true) && (bytesOk x0_0 && (okTo (1 : Int) (x0_1 + (1 : Int)) && true) && true && true || g167_0 x0_0 x0_1 x0_2 (12 : Int))) = true := by
  obtain ⟨h0, h⟩ := Bool.and_eq_true_iff.1 h
  have h1 := h
  have p0 : (okTo (1 : Int) x0_1) = true := (okTo_le (v := 1) h1 (by decide))
  have p1 : (okTo (2 : Int) (x0_1 + (1 : Int))) = true := (okTo_add (u := 1) (v := 2) (w := 3) (okTo_le (v := 3) h1 (by decide)) ⟨by decide, by decide⟩ (by decide))
  have p2 : (okTo (1 : Int) (x0_1 + (1 : Int))) = true := (okTo_add (u := 1) (v := 1) (w := 2) (okTo_le (v := 2) h1 (by decide)) ⟨by decide, by decide⟩ (by decide))
  simp only [h0, p0, p1, p2, Bool.and_true, Bool.true_and, Bool.or_true, Bool.true_or, Bool.or_false, Bool.false_or, Bool.and_self, Bool.cond_self, Bool.not_true, Bool.not_false, Bool.false_and, Bool.and_false]
theorem d134 (x0_0 : List Row) (x0_1 : Int) (x0_2 : Int) : fnT Q167 [] [] 0 F134 [.one (.ptr 0 0 0)] [.box [.imm true 1 x0_0, .lit (.int .i64 x0_1), .lit (.int .u64 x0_2)]] = some ((SV.one (T.lit (Value.int IntKind.i64 (g134_0 x0_0 x0_1 x0_2))), [Blk.box [T.imm true (1 : Nat) (r134_1 x0_0 x0_1 x0_2), T.lit (Value.int IntKind.i64 (r134_2 x0_0 x0_1 x0_2)), T.lit (Value.int IntKind.u64 (g134_3 x0_0 x0_1 x0_2))]]), bytesOk x0_0 && (okTo (1 : Int) x0_1 && true) && true && ((bytesOk x0_0 && (okTo (2 : Int) (x0_1 + (1 : Int)) && true) && true && true || !g167_0 x0_0 x0_1 x0_2 (12 : Int)) && true) && (bytesOk x0_0 && (okTo (1 : Int) (x0_1 + (1 : Int)) && true) && true && true || g167_0 x0_0 x0_1 x0_2 (12 : Int))) := by kernel_rfl
theorem e134 (x0_0 : List Row) (x0_1 : Int) (x0_2 : Int) : fnT Q167 [] [] 0 F134 [.one (.ptr 0 0 0)] [.box [.imm true 1 x0_0, .lit (.int .i64 x0_1), .lit (.int .u64 x0_2)]] = some ((SV.one (T.lit (Value.int IntKind.i64 (g134_0 x0_0 x0_1 x0_2))), [Blk.box [T.imm true (1 : Nat) x0_0, T.lit (Value.int IntKind.i64 (x0_1 + g134_2)), T.lit (Value.int IntKind.u64 (g134_3 x0_0 x0_1 x0_2))]]), bytesOk x0_0 && (okTo (1 : Int) x0_1 && true) && true && ((bytesOk x0_0 && (okTo (2 : Int) (x0_1 + (1 : Int)) && true) && true && true || !g167_0 x0_0 x0_1 x0_2 (12 : Int)) && true) && (bytesOk x0_0 && (okTo (1 : Int) (x0_1 + (1 : Int)) && true) && true && true || g167_0 x0_0 x0_1 x0_2 (12 : Int))) := by rw [d134, c134_1, c134_2]
def q134 : List SV → List Blk → Option ((SV × List Blk) × Bool)
  | [.one (.ptr 0 0 0)], [.box [.imm true 1 x0_0, .lit (.int .i64 x0_1), .lit (.int .u64 x0_2)]] => some ((SV.one (T.lit (Value.int IntKind.i64 (g134_0 x0_0 x0_1 x0_2))), [Blk.box [T.imm true (1 : Nat) x0_0, T.lit (Value.int IntKind.i64 (x0_1 + g134_2)), T.lit (Value.int IntKind.u64 (g134_3 x0_0 x0_1 x0_2))]]), bytesOk x0_0 && okTo (3 : Int) x0_1)
  | _, _ => none
theorem t134 (args : List SV) (hp : List Blk) (r : SV × List Blk) (h : q134 args hp = some (r, true)) : R 134 args hp = some r := by
  unfold q134 at h
  split at h
  · rename_i x0_0 x0_1 x0_2; exact R_fn at134 0 (fnT_run Q167_ok (okTrans (e134 x0_0 x0_1 x0_2) (k134 x0_0 x0_1 x0_2) h))
  · simp at h
noncomputable def Q134 : Qt := qcons 134 q134 Q167
theorem Q134_ok : QOk R Q134 := qcons_ok t134 Q167_ok
/-! spec.DrawAddBcd -/
def g15_0 (x0 : List Row) : Int := g133_0 x0 (0 : Int) (0 : Int) (ri [(0 : Int), (0 : Int), (1 : Int), (1 : Int), (2 : Int)])
def g15_1 (x0 : List Row) : Int := g134_0 x0 (1 : Int) (g133_2 x0 (0 : Int) (0 : Int) (ri [(0 : Int), (0 : Int), (1 : Int), (1 : Int), (2 : Int)]))
def g15_2 (x0 : List Row) : Int := g134_0 x0 (3 : Int) (g134_3 x0 (1 : Int) (g133_2 x0 (0 : Int) (0 : Int) (ri [(0 : Int), (0 : Int), (1 : Int), (1 : Int), (2 : Int)])))
theorem k15 (x0 : List Row) (h : (bytesOk x0) = true) : (bytesOk x0 && true && (bytesOk x0 && true && (bytesOk x0 && true && true)) && true) = true := by
  have h0 := h
  simp only [h0, Bool.and_true, Bool.true_and, Bool.or_true, Bool.true_or, Bool.or_false, Bool.false_or, Bool.and_self, Bool.cond_self, Bool.not_true, Bool.not_false, Bool.false_and, Bool.and_false]
theorem e15 (x0 : List Row) : fnT Q134 [] [] 0 F15 [.one (.imm true 1 x0)] [] = some ((SV.tup [SV.one (T.lit (Value.int IntKind.i64 (g15_0 x0))), SV.one (T.lit (Value.int IntKind.i64 (g15_1 x0))), SV.one (T.lit (Value.int IntKind.i64 (g15_2 x0)))], []), bytesOk x0 && true && (bytesOk x0 && true && (bytesOk x0 && true && true)) && true) := by kernel_rfl
def q15 : List SV → List Blk → Option ((SV × List Blk) × Bool)
  | [.one (.imm true 1 x0)], [] => some ((SV.tup [SV.one (T.lit (Value.int IntKind.i64 (g15_0 x0))), SV.one (T.lit (Value.int IntKind.i64 (g15_1 x0))), SV.one (T.lit (Value.int IntKind.i64 (g15_2 x0)))], []), bytesOk x0)
  | _, _ => none
theorem t15 (args : List SV) (hp : List Blk) (r : SV × List Blk) (h : q15 args hp = some (r, true)) : R 15 args hp = some r := by
  unfold q15 at h
  split at h
  · rename_i x0; exact R_fn at15 0 (fnT_run Q134_ok (okTrans (e15 x0) (k15 x0) h))
  · simp at h
noncomputable def Q15 : Qt := qcons 15 q15 Q134
theorem Q15_ok : QOk R Q15 := qcons_ok t15 Q134_ok
/-! impl.within -/
def g142_0 (x0 : Int) (x1 : Int) (x2 : Int) : Bool := bif decide (x0 ≥ x1) then decide (x0 ≤ x2) else false
theorem e142 (x0 : Int) (x1 : Int) (x2 : Int) : fnT Q15 [] [] 0 F142 [.one (.lit (.int .i64 x0)), .one (.lit (.int .i64 x1)), .one (.lit (.int .i64 x2))] [] = some ((SV.one (T.lit (Value.bool (g142_0 x0 x1 x2))), []), true) := by kernel_rfl
def q142 : List SV → List Blk → Option ((SV × List Blk) × Bool)
  | [.one (.lit (.int .i64 x0)), .one (.lit (.int .i64 x1)), .one (.lit (.int .i64 x2))], [] => some ((SV.one (T.lit (Value.bool (g142_0 x0 x1 x2))), []), true)
  | _, _ => none
theorem t142 (args : List SV) (hp : List Blk) (r : SV × List Blk) (h : q142 args hp = some (r, true)) : R 142 args hp = some r := by
  unfold q142 at h
  split at h
  · rename_i x0 x1 x2; exact R_fn at142 0 (fnT_run Q15_ok ((e142 x0 x1 x2).trans h))
  · simp at h
noncomputable def Q142 : Qt := qcons 142 q142 Q15
theorem Q142_ok : QOk R Q142 := qcons_ok t142 Q15_ok
/-! impl.IsBcd -/
def g24_0 (x0 : Int) : Bool := bif g142_0 x0 (0 : Int) (153 : Int) then decide (IntKind.wrap IntKind.i64 ↑(BitVec.toNat (BitVec.ofInt (IntKind.bits IntKind.i64) x0 &&& BitVec.ofInt (IntKind.bits IntKind.i64) (15 : Int))) ≤ (9 : Int)) else false
theorem e24 (x0 : Int) : fnT Q142 [] [] 0 F24 [.one (.lit (.int .i64 x0))] [] = some ((SV.one (T.lit (Value.bool (g24_0 x0))), []), true) := by kernel_rfl
def q24 : List SV → List Blk → Option ((SV × List Blk) × Bool)
  | [.one (.lit (.int .i64 x0))], [] => some ((SV.one (T.lit (Value.bool (g24_0 x0))), []), true)
  | _, _ => none
theorem t24 (args : List SV) (hp : List Blk) (r : SV × List Blk) (h : q24 args hp = some (r, true)) : R 24 args hp = some r := by
  unfold q24 at h
  split at h
  · rename_i x0; exact R_fn at24 0 (fnT_run Q142_ok ((e24 x0).trans h))
  · simp at h
noncomputable def Q24 : Qt := qcons 24 q24 Q142
theorem Q24_ok : QOk R Q24 := qcons_ok t24 Q142_ok
/-! impl.isBit -/
def g150_0 (x0 : Int) : Bool := g142_0 x0 (0 : Int) (1 : Int)
theorem e150 (x0 : Int) : fnT Q24 [] [] 0 F150 [.one (.lit (.int .i64 x0))] [] = some ((SV.one (T.lit (Value.bool (g150_0 x0))), []), true) := by kernel_rfl
def q150 : List SV → List Blk → Option ((SV × List Blk) × Bool)
  | [.one (.lit (.int .i64 x0))], [] => some ((SV.one (T.lit (Value.bool (g150_0 x0))), []), true)
  | _, _ => none
theorem t150 (args : List SV) (hp : List Blk) (r : SV × List Blk) (h : q150 args hp = some (r, true)) : R 150 args hp = some r := by
  unfold q150 at h
  split at h
  · rename_i x0; exact R_fn at150 0 (fnT_run Q24_ok ((e150 x0).trans h))
  · simp at h
noncomputable def Q150 : Qt := qcons 150 q150 Q24
theorem Q150_ok : QOk R Q150 := qcons_ok t150 Q24_ok
/-! impl.areBcd -/
def g135_0 (x0 : Int) (a : Int) (b : Int) : Bool := bif !g24_0 a then false else bif !g24_0 b then false else g150_0 x0
theorem e135 (p : Bool) (x0 : Int) (a : Int) (b : Int) : fnT Q150 [(11, [.int .i64]), (12, [.int .i64])] [10] 4 F135 [.one (.lit (.int .i64 x0)), .one (.imm p 1 [[.lit (.int .i64 a)], [.lit (.int .i64 b)]])] [] = some ((SV.one (T.lit (Value.bool (g135_0 x0 a b))), []), true) := by kernel_rfl
def q135 : List SV → List Blk → Option ((SV × List Blk) × Bool)
  | [.one (.lit (.int .i64 x0)), .one (.imm p 1 [[.lit (.int .i64 a)], [.lit (.int .i64 b)]])], [] => some ((SV.one (T.lit (Value.bool (g135_0 x0 a b))), []), true)
  | _, _ => none
theorem t135 (args : List SV) (hp : List Blk) (r : SV × List Blk) (h : q135 args hp = some (r, true)) : R 135 args hp = some r := by
  unfold q135 at h
  split at h
  · rename_i x0 p a b; exact R_fn at135 4 (fnT_run Q150_ok ((e135 p x0 a b).trans h))
  · simp at h
noncomputable def Q135 : Qt := qcons 135 q135 Q150
theorem Q135_ok : QOk R Q135 := qcons_ok t135 Q150_ok
/-! impl.bcdOf -/
def g143_0 (x0 : Int) : Int := IntKind.wrap IntKind.i64 ↑(BitVec.toNat (BitVec.ofInt (64 : Nat) (IntKind.wrap IntKind.i64 (IntKind.wrap IntKind.i64 (Int.tdiv x0 (10 : Int)) * (16 : Int))) ||| BitVec.ofInt (64 : Nat) (Int.tmod x0 (10 : Int))))
theorem e143 (x0 : Int) : fnT Q135 [] [] 0 F143 [.one (.lit (.int .i64 x0))] [] = some ((SV.one (T.lit (Value.int IntKind.i64 (g143_0 x0))), []), true) := by kernel_rfl
def q143 : List SV → List Blk → Option ((SV × List Blk) × Bool)
  | [.one (.lit (.int .i64 x0))], [] => some ((SV.one (T.lit (Value.int IntKind.i64 (g143_0 x0))), []), true)
  | _, _ => none
theorem t143 (args : List SV) (hp : List Blk) (r : SV × List Blk) (h : q143 args hp = some (r, true)) : R 143 args hp = some r := by
  unfold q143 at h
  split at h
  · rename_i x0; exact R_fn at143 0 (fnT_run Q135_ok ((e143 x0).trans h))
  · simp at h
noncomputable def Q143 : Qt := qcons 143 q143 Q135
theorem Q143_ok : QOk R Q143 := qcons_ok t143 Q135_ok
/-! impl.carried -/
def g136_0 (x0 : Int) : Int := bif g142_0 x0 (0 : Int) (99 : Int) then g143_0 x0 else g143_0 (Int.tmod (IntKind.wrap IntKind.i64 (x0 + (100 : Int))) (100 : Int))
def g136_1 (x0 : Int) : Int := bif g142_0 x0 (0 : Int) (99 : Int) then (0 : Int) else (1 : Int)
theorem e136 (x0 : Int) : fnT Q143 [] [] 0 F136 [.one (.lit (.int .i64 x0))] [] = some ((SV.tup [SV.one (T.lit (Value.int IntKind.i64 (g136_0 x0))), SV.one (T.lit (Value.int IntKind.i64 (g136_1 x0)))], []), true) := by kernel_rfl
def q136 : List SV → List Blk → Option ((SV × List Blk) × Bool)
  | [.one (.lit (.int .i64 x0))], [] => some ((SV.tup [SV.one (T.lit (Value.int IntKind.i64 (g136_0 x0))), SV.one (T.lit (Value.int IntKind.i64 (g136_1 x0)))], []), true)
  | _, _ => none
theorem t136 (args : List SV) (hp : List Blk) (r : SV × List Blk) (h : q136 args hp = some (r, true)) : R 136 args hp = some r := by
  unfold q136 at h
  split at h
  · rename_i x0; exact R_fn at136 0 (fnT_run Q143_ok ((e136 x0).trans h))
  · simp at h
noncomputable def Q136 : Qt := qcons 136 q136 Q143
theorem Q136_ok : QOk R Q136 := qcons_ok t136 Q143_ok
/-! impl.numberOf -/
def g137_0 (x0 : Int) : Int := IntKind.wrap IntKind.i64 (IntKind.wrap IntKind.i64 (Int.fdiv x0 (16 : Int) * (10 : Int)) + IntKind.wrap IntKind.i64 ↑(BitVec.toNat (BitVec.ofInt (64 : Nat) x0 &&& BitVec.ofInt (64 : Nat) (15 : Int))))
theorem e137 (x0 : Int) : fnT Q136 [] [] 0 F137 [.one (.lit (.int .i64 x0))] [] = some ((SV.one (T.lit (Value.int IntKind.i64 (g137_0 x0))), []), true) := by kernel_rfl
def q137 : List SV → List Blk → Option ((SV × List Blk) × Bool)
  | [.one (.lit (.int .i64 x0))], [] => some ((SV.one (T.lit (Value.int IntKind.i64 (g137_0 x0))), []), true)
  | _, _ => none
theorem t137 (args : List SV) (hp : List Blk) (r : SV × List Blk) (h : q137 args hp = some (r, true)) : R 137 args hp = some r := by
  unfold q137 at h
  split at h
  · rename_i x0; exact R_fn at137 0 (fnT_run Q136_ok ((e137 x0).trans h))
  · simp at h
noncomputable def Q137 : Qt := qcons 137 q137 Q136
theorem Q137_ok : QOk R Q137 := qcons_ok t137 Q136_ok
/-! impl.AddBcd -/
def g16_0 (x0 : Int) (x1 : Int) (x2 : Int) : Int := bif !g135_0 x0 x1 x2 then (0 : Int) else g136_0 (IntKind.wrap IntKind.i64 (IntKind.wrap IntKind.i64 (g137_0 x1 + g137_0 x2) + x0))
def g16_1 (x0 : Int) (x1 : Int) (x2 : Int) : Int := bif !g135_0 x0 x1 x2 then (0 : Int) else g136_1 (IntKind.wrap IntKind.i64 (IntKind.wrap IntKind.i64 (g137_0 x1 + g137_0 x2) + x0))
def r16_2 (x0 : Int) (x1 : Int) (x2 : Int) : Bool := bif !g135_0 x0 x1 x2 then false else true
def g16_2 (x0 : Int) (x1 : Int) (x2 : Int) : Bool := g135_0 x0 x1 x2
theorem c16_2 (x0 : Int) (x1 : Int) (x2 : Int) : r16_2 x0 x1 x2 = g16_2 x0 x1 x2 := by simp only [r16_2, g16_2, Bool.cond_self, bif_tf, bif_ft, Bool.not_not]
theorem d16 (x0 : Int) (x1 : Int) (x2 : Int) : fnT Q137 [] [] 0 F16 [.one (.lit (.int .i64 x0)), .one (.lit (.int .i64 x1)), .one (.lit (.int .i64 x2))] [] = some ((SV.tup [SV.one (T.lit (Value.int IntKind.i64 (g16_0 x0 x1 x2))), SV.one (T.lit (Value.int IntKind.i64 (g16_1 x0 x1 x2))), SV.one (T.lit (Value.bool (r16_2 x0 x1 x2)))], []), true) := by kernel_rfl
theorem e16 (x0 : Int) (x1 : Int) (x2 : Int) : fnT Q137 [] [] 0 F16 [.one (.lit (.int .i64 x0)), .one (.lit (.int .i64 x1)), .one (.lit (.int .i64 x2))] [] = some ((SV.tup [SV.one (T.lit (Value.int IntKind.i64 (g16_0 x0 x1 x2))), SV.one (T.lit (Value.int IntKind.i64 (g16_1 x0 x1 x2))), SV.one (T.lit (Value.bool (g16_2 x0 x1 x2)))], []), true) := by rw [d16, c16_2]
def q16 : List SV → List Blk → Option ((SV × List Blk) × Bool)
  | [.one (.lit (.int .i64 x0)), .one (.lit (.int .i64 x1)), .one (.lit (.int .i64 x2))], [] => some ((SV.tup [SV.one (T.lit (Value.int IntKind.i64 (g16_0 x0 x1 x2))), SV.one (T.lit (Value.int IntKind.i64 (g16_1 x0 x1 x2))), SV.one (T.lit (Value.bool (g16_2 x0 x1 x2)))], []), true)
  | _, _ => none
theorem t16 (args : List SV) (hp : List Blk) (r : SV × List Blk) (h : q16 args hp = some (r, true)) : R 16 args hp = some r := by
  unfold q16 at h
  split at h
  · rename_i x0 x1 x2; exact R_fn at16 0 (fnT_run Q137_ok ((e16 x0 x1 x2).trans h))
  · simp at h
noncomputable def Q16 : Qt := qcons 16 q16 Q137
theorem Q16_ok : QOk R Q16 := qcons_ok t16 Q137_ok
/-! spec.l1In -/
def g144_0 (x0 : Int) (x1 : Int) (x2 : Int) : Bool := bif decide (x0 ≥ x1) then decide (x0 ≤ x2) else false
theorem e144 (x0 : Int) (x1 : Int) (x2 : Int) : fnT Q16 [] [] 0 F144 [.one (.lit (.int .i64 x0)), .one (.lit (.int .i64 x1)), .one (.lit (.int .i64 x2))] [] = some ((SV.one (T.lit (Value.bool (g144_0 x0 x1 x2))), []), true) := by kernel_rfl
def q144 : List SV → List Blk → Option ((SV × List Blk) × Bool)
  | [.one (.lit (.int .i64 x0)), .one (.lit (.int .i64 x1)), .one (.lit (.int .i64 x2))], [] => some ((SV.one (T.lit (Value.bool (g144_0 x0 x1 x2))), []), true)
  | _, _ => none
theorem t144 (args : List SV) (hp : List Blk) (r : SV × List Blk) (h : q144 args hp = some (r, true)) : R 144 args hp = some r := by
  unfold q144 at h
  split at h
  · rename_i x0 x1 x2; exact R_fn at144 0 (fnT_run Q16_ok ((e144 x0 x1 x2).trans h))
  · simp at h
noncomputable def Q144 : Qt := qcons 144 q144 Q16
theorem Q144_ok : QOk R Q144 := qcons_ok t144 Q16_ok
/-! spec.IsBcd -/
def g146_0 (x0 : Int) : Bool := bif bif g144_0 x0 (0 : Int) (255 : Int) then decide (Int.fdiv x0 ((2 : Int) ^ min (Int.toNat (4 : Int)) (IntKind.bits IntKind.i64)) ≤ (9 : Int)) else false then decide (IntKind.wrap IntKind.i64 ↑(BitVec.toNat (BitVec.ofInt (IntKind.bits IntKind.i64) x0 &&& BitVec.ofInt (IntKind.bits IntKind.i64) (15 : Int))) ≤ (9 : Int)) else false
theorem e146 (x0 : Int) : fnT Q144 [] [] 0 F146 [.one (.lit (.int .i64 x0))] [] = some ((SV.one (T.lit (Value.bool (g146_0 x0))), []), true) := by kernel_rfl
def q146 : List SV → List Blk → Option ((SV × List Blk) × Bool)
  | [.one (.lit (.int .i64 x0))], [] => some ((SV.one (T.lit (Value.bool (g146_0 x0))), []), true)
  | _, _ => none
theorem t146 (args : List SV) (hp : List Blk) (r : SV × List Blk) (h : q146 args hp = some (r, true)) : R 146 args hp = some r := by
  unfold q146 at h
  split at h
  · rename_i x0; exact R_fn at146 0 (fnT_run Q144_ok ((e146 x0).trans h))
  · simp at h
noncomputable def Q146 : Qt := qcons 146 q146 Q144
theorem Q146_ok : QOk R Q146 := qcons_ok t146 Q144_ok
/-! spec.l2Two -/
def g138_0 (x0 : Int) (x1 : Int) (x2 : Int) : Bool := bif bif g144_0 x0 (0 : Int) (1 : Int) then g146_0 x1 else false then g146_0 x2 else false
theorem e138 (x0 : Int) (x1 : Int) (x2 : Int) : fnT Q146 [] [] 0 F138 [.one (.lit (.int .i64 x0)), .one (.lit (.int .i64 x1)), .one (.lit (.int .i64 x2))] [] = some ((SV.one (T.lit (Value.bool (g138_0 x0 x1 x2))), []), true) := by kernel_rfl
def q138 : List SV → List Blk → Option ((SV × List Blk) × Bool)
  | [.one (.lit (.int .i64 x0)), .one (.lit (.int .i64 x1)), .one (.lit (.int .i64 x2))], [] => some ((SV.one (T.lit (Value.bool (g138_0 x0 x1 x2))), []), true)
  | _, _ => none
theorem t138 (args : List SV) (hp : List Blk) (r : SV × List Blk) (h : q138 args hp = some (r, true)) : R 138 args hp = some r := by
  unfold q138 at h
  split at h
  · rename_i x0 x1 x2; exact R_fn at138 0 (fnT_run Q146_ok ((e138 x0 x1 x2).trans h))
  · simp at h
noncomputable def Q138 : Qt := qcons 138 q138 Q146
theorem Q138_ok : QOk R Q138 := qcons_ok t138 Q146_ok
/-! spec.l2Number -/
def g147_0 (x0 : Int) : Int := IntKind.wrap IntKind.i64 (IntKind.wrap IntKind.i64 (Int.fdiv x0 (16 : Int) * (10 : Int)) + IntKind.wrap IntKind.i64 ↑(BitVec.toNat (BitVec.ofInt (64 : Nat) x0 &&& BitVec.ofInt (64 : Nat) (15 : Int))))
theorem e147 (x0 : Int) : fnT Q138 [] [] 0 F147 [.one (.lit (.int .i64 x0))] [] = some ((SV.one (T.lit (Value.int IntKind.i64 (g147_0 x0))), []), true) := by kernel_rfl
def q147 : List SV → List Blk → Option ((SV × List Blk) × Bool)
  | [.one (.lit (.int .i64 x0))], [] => some ((SV.one (T.lit (Value.int IntKind.i64 (g147_0 x0))), []), true)
  | _, _ => none
theorem t147 (args : List SV) (hp : List Blk) (r : SV × List Blk) (h : q147 args hp = some (r, true)) : R 147 args hp = some r := by
  unfold q147 at h
  split at h
  · rename_i x0; exact R_fn at147 0 (fnT_run Q138_ok ((e147 x0).trans h))
  · simp at h
noncomputable def Q147 : Qt := qcons 147 q147 Q138
theorem Q147_ok : QOk R Q147 := qcons_ok t147 Q138_ok
/-! spec.l2Add -/
def g139_0 (x0 : Int) (x1 : Int) (x2 : Int) : Int := g145_0 (Int.tmod (IntKind.wrap IntKind.i64 (IntKind.wrap IntKind.i64 (g147_0 x1 + g147_0 x2) + x0)) (100 : Int))
def g139_1 (x0 : Int) (x1 : Int) (x2 : Int) : Int := IntKind.wrap IntKind.i64 (Int.tdiv (IntKind.wrap IntKind.i64 (IntKind.wrap IntKind.i64 (g147_0 x1 + g147_0 x2) + x0)) (100 : Int))
theorem e139 (x0 : Int) (x1 : Int) (x2 : Int) : fnT Q147 [] [] 0 F139 [.one (.lit (.int .i64 x0)), .one (.lit (.int .i64 x1)), .one (.lit (.int .i64 x2))] [] = some ((SV.tup [SV.one (T.lit (Value.int IntKind.i64 (g139_0 x0 x1 x2))), SV.one (T.lit (Value.int IntKind.i64 (g139_1 x0 x1 x2)))], []), true) := by kernel_rfl
def q139 : List SV → List Blk → Option ((SV × List Blk) × Bool)
  | [.one (.lit (.int .i64 x0)), .one (.lit (.int .i64 x1)), .one (.lit (.int .i64 x2))], [] => some ((SV.tup [SV.one (T.lit (Value.int IntKind.i64 (g139_0 x0 x1 x2))), SV.one (T.lit (Value.int IntKind.i64 (g139_1 x0 x1 x2)))], []), true)
  | _, _ => none
theorem t139 (args : List SV) (hp : List Blk) (r : SV × List Blk) (h : q139 args hp = some (r, true)) : R 139 args hp = some r := by
  unfold q139 at h
  split at h
  · rename_i x0 x1 x2; exact R_fn at139 0 (fnT_run Q147_ok ((e139 x0 x1 x2).trans h))
  · simp at h
noncomputable def Q139 : Qt := qcons 139 q139 Q147
theorem Q139_ok : QOk R Q139 := qcons_ok t139 Q147_ok
/-! spec.AddBcd -/
def g17_0 (x0 : Int) (x1 : Int) (x2 : Int) : Int := bif !g138_0 x0 x1 x2 then (0 : Int) else g139_0 x0 x1 x2
def g17_1 (x0 : Int) (x1 : Int) (x2 : Int) : Int := bif !g138_0 x0 x1 x2 then (0 : Int) else g139_1 x0 x1 x2
def r17_2 (x0 : Int) (x1 : Int) (x2 : Int) : Bool := bif !g138_0 x0 x1 x2 then false else true
def g17_2 (x0 : Int) (x1 : Int) (x2 : Int) : Bool := g138_0 x0 x1 x2
theorem c17_2 (x0 : Int) (x1 : Int) (x2 : Int) : r17_2 x0 x1 x2 = g17_2 x0 x1 x2 := by simp only [r17_2, g17_2, Bool.cond_self, bif_tf, bif_ft, Bool.not_not]
theorem d17 (x0 : Int) (x1 : Int) (x2 : Int) : fnT Q139 [] [] 0 F17 [.one (.lit (.int .i64 x0)), .one (.lit (.int .i64 x1)), .one (.lit (.int .i64 x2))] [] = some ((SV.tup [SV.one (T.lit (Value.int IntKind.i64 (g17_0 x0 x1 x2))), SV.one (T.lit (Value.int IntKind.i64 (g17_1 x0 x1 x2))), SV.one (T.lit (Value.bool (r17_2 x0 x1 x2)))], []), true) := by kernel_rfl
theorem e17 (x0 : Int) (x1 : Int) (x2 : Int) : fnT Q139 [] [] 0 F17 [.one (.lit (.int .i64 x0)), .one (.lit (.int .i64 x1)), .one (.lit (.int .i64 x2))] [] = some ((SV.tup [SV.one (T.lit (Value.int IntKind.i64 (g17_0 x0 x1 x2))), SV.one (T.lit (Value.int IntKind.i64 (g17_1 x0 x1 x2))), SV.one (T.lit (Value.bool (g17_2 x0 x1 x2)))], []), true) := by rw [d17, c17_2]
def q17 : List SV → List Blk → Option ((SV × List Blk) × Bool)
  | [.one (.lit (.int .i64 x0)), .one (.lit (.int .i64 x1)), .one (.lit (.int .i64 x2))], [] => some ((SV.tup [SV.one (T.lit (Value.int IntKind.i64 (g17_0 x0 x1 x2))), SV.one (T.lit (Value.int IntKind.i64 (g17_1 x0 x1 x2))), SV.one (T.lit (Value.bool (g17_2 x0 x1 x2)))], []), true)
  | _, _ => none
theorem t17 (args : List SV) (hp : List Blk) (r : SV × List Blk) (h : q17 args hp = some (r, true)) : R 17 args hp = some r := by
  unfold q17 at h
  split at h
  · rename_i x0 x1 x2; exact R_fn at17 0 (fnT_run Q139_ok ((e17 x0 x1 x2).trans h))
  · simp at h
noncomputable def Q17 : Qt := qcons 17 q17 Q139
theorem Q17_ok : QOk R Q17 := qcons_ok t17 Q139_ok
/-! impl.SubBcd -/
def g18_0 (x0 : Int) (x1 : Int) (x2 : Int) : Int := bif !g135_0 x0 x1 x2 then (0 : Int) else g136_0 (IntKind.wrap IntKind.i64 (IntKind.wrap IntKind.i64 (g137_0 x1 - g137_0 x2) - x0))
def g18_1 (x0 : Int) (x1 : Int) (x2 : Int) : Int := bif !g135_0 x0 x1 x2 then (0 : Int) else g136_1 (IntKind.wrap IntKind.i64 (IntKind.wrap IntKind.i64 (g137_0 x1 - g137_0 x2) - x0))
def r18_2 (x0 : Int) (x1 : Int) (x2 : Int) : Bool := bif !g135_0 x0 x1 x2 then false else true
def g18_2 (x0 : Int) (x1 : Int) (x2 : Int) : Bool := g135_0 x0 x1 x2
theorem c18_2 (x0 : Int) (x1 : Int) (x2 : Int) : r18_2 x0 x1 x2 = g18_2 x0 x1 x2 := by simp only [r18_2, g18_2, Bool.cond_self, bif_tf, bif_ft, Bool.not_not]
theorem d18 (x0 : Int) (x1 : Int) (x2 : Int) : fnT Q17 [] [] 0 F18 [.one (.lit (.int .i64 x0)), .one (.lit (.int .i64 x1)), .one (.lit (.int .i64 x2))] [] = some ((SV.tup [SV.one (T.lit (Value.int IntKind.i64 (g18_0 x0 x1 x2))), SV.one (T.lit (Value.int IntKind.i64 (g18_1 x0 x1 x2))), SV.one (T.lit (Value.bool (r18_2 x0 x1 x2)))], []), true) := by kernel_rfl
theorem e18 (x0 : Int) (x1 : Int) (x2 : Int) : fnT Q17 [] [] 0 F18 [.one (.lit (.int .i64 x0)), .one (.lit (.int .i64 x1)), .one (.lit (.int .i64 x2))] [] = some ((SV.tup [SV.one (T.lit (Value.int IntKind.i64 (g18_0 x0 x1 x2))), SV.one (T.lit (Value.int IntKind.i64 (g18_1 x0 x1 x2))), SV.one (T.lit (Value.bool (g18_2 x0 x1 x2)))], []), true) := by rw [d18, c18_2]
def q18 : List SV → List Blk → Option ((SV × List Blk) × Bool)
  | [.one (.lit (.int .i64 x0)), .one (.lit (.int .i64 x1)), .one (.lit (.int .i64 x2))], [] => some ((SV.tup [SV.one (T.lit (Value.int IntKind.i64 (g18_0 x0 x1 x2))), SV.one (T.lit (Value.int IntKind.i64 (g18_1 x0 x1 x2))), SV.one (T.lit (Value.bool (g18_2 x0 x1 x2)))], []), true)
  | _, _ => none
theorem t18 (args : List SV) (hp : List Blk) (r : SV × List Blk) (h : q18 args hp = some (r, true)) : R 18 args hp = some r := by
  unfold q18 at h
  split at h
  · rename_i x0 x1 x2; exact R_fn at18 0 (fnT_run Q17_ok ((e18 x0 x1 x2).trans h))
  · simp at h
noncomputable def Q18 : Qt := qcons 18 q18 Q17
theorem Q18_ok : QOk R Q18 := qcons_ok t18 Q17_ok
/-! spec.l2Sub -/
def g140_0 (x0 : Int) (x1 : Int) (x2 : Int) : Int := bif decide (IntKind.wrap IntKind.i64 (IntKind.wrap IntKind.i64 (g147_0 x1 - g147_0 x2) - x0) < (0 : Int)) then g145_0 (IntKind.wrap IntKind.i64 (IntKind.wrap IntKind.i64 (IntKind.wrap IntKind.i64 (g147_0 x1 - g147_0 x2) - x0) + (100 : Int))) else g145_0 (IntKind.wrap IntKind.i64 (IntKind.wrap IntKind.i64 (g147_0 x1 - g147_0 x2) - x0))
def g140_1 (x0 : Int) (x1 : Int) (x2 : Int) : Int := bif decide (IntKind.wrap IntKind.i64 (IntKind.wrap IntKind.i64 (g147_0 x1 - g147_0 x2) - x0) < (0 : Int)) then (1 : Int) else (0 : Int)
theorem e140 (x0 : Int) (x1 : Int) (x2 : Int) : fnT Q18 [] [] 0 F140 [.one (.lit (.int .i64 x0)), .one (.lit (.int .i64 x1)), .one (.lit (.int .i64 x2))] [] = some ((SV.tup [SV.one (T.lit (Value.int IntKind.i64 (g140_0 x0 x1 x2))), SV.one (T.lit (Value.int IntKind.i64 (g140_1 x0 x1 x2)))], []), true) := by kernel_rfl
def q140 : List SV → List Blk → Option ((SV × List Blk) × Bool)
  | [.one (.lit (.int .i64 x0)), .one (.lit (.int .i64 x1)), .one (.lit (.int .i64 x2))], [] => some ((SV.tup [SV.one (T.lit (Value.int IntKind.i64 (g140_0 x0 x1 x2))), SV.one (T.lit (Value.int IntKind.i64 (g140_1 x0 x1 x2)))], []), true)
  | _, _ => none
theorem t140 (args : List SV) (hp : List Blk) (r : SV × List Blk) (h : q140 args hp = some (r, true)) : R 140 args hp = some r := by
  unfold q140 at h
  split at h
  · rename_i x0 x1 x2; exact R_fn at140 0 (fnT_run Q18_ok ((e140 x0 x1 x2).trans h))
  · simp at h
noncomputable def Q140 : Qt := qcons 140 q140 Q18
theorem Q140_ok : QOk R Q140 := qcons_ok t140 Q18_ok
/-! spec.SubBcd -/
def g19_0 (x0 : Int) (x1 : Int) (x2 : Int) : Int := bif !g138_0 x0 x1 x2 then (0 : Int) else g140_0 x0 x1 x2
def g19_1 (x0 : Int) (x1 : Int) (x2 : Int) : Int := bif !g138_0 x0 x1 x2 then (0 : Int) else g140_1 x0 x1 x2
def r19_2 (x0 : Int) (x1 : Int) (x2 : Int) : Bool := bif !g138_0 x0 x1 x2 then false else true
def g19_2 (x0 : Int) (x1 : Int) (x2 : Int) : Bool := g138_0 x0 x1 x2
theorem c19_2 (x0 : Int) (x1 : Int) (x2 : Int) : r19_2 x0 x1 x2 = g19_2 x0 x1 x2 := by simp only [r19_2, g19_2, Bool.cond_self, bif_tf, bif_ft, Bool.not_not]
theorem d19 (x0 : Int) (x1 : Int) (x2 : Int) : fnT Q140 [] [] 0 F19 [.one (.lit (.int .i64 x0)), .one (.lit (.int .i64 x1)), .one (.lit (.int .i64 x2))] [] = some ((SV.tup [SV.one (T.lit (Value.int IntKind.i64 (g19_0 x0 x1 x2))), SV.one (T.lit (Value.int IntKind.i64 (g19_1 x0 x1 x2))), SV.one (T.lit (Value.bool (r19_2 x0 x1 x2)))], []), true) := by kernel_rfl
theorem e19 (x0 : Int) (x1 : Int) (x2 : Int) : fnT Q140 [] [] 0 F19 [.one (.lit (.int .i64 x0)), .one (.lit (.int .i64 x1)), .one (.lit (.int .i64 x2))] [] = some ((SV.tup [SV.one (T.lit (Value.int IntKind.i64 (g19_0 x0 x1 x2))), SV.one (T.lit (Value.int IntKind.i64 (g19_1 x0 x1 x2))), SV.one (T.lit (Value.bool (g19_2 x0 x1 x2)))], []), true) := by rw [d19, c19_2]
def q19 : List SV → List Blk → Option ((SV × List Blk) × Bool)
  | [.one (.lit (.int .i64 x0)), .one (.lit (.int .i64 x1)), .one (.lit (.int .i64 x2))], [] => some ((SV.tup [SV.one (T.lit (Value.int IntKind.i64 (g19_0 x0 x1 x2))), SV.one (T.lit (Value.int IntKind.i64 (g19_1 x0 x1 x2))), SV.one (T.lit (Value.bool (g19_2 x0 x1 x2)))], []), true)
  | _, _ => none
theorem t19 (args : List SV) (hp : List Blk) (r : SV × List Blk) (h : q19 args hp = some (r, true)) : R 19 args hp = some r := by
  unfold q19 at h
  split at h
  · rename_i x0 x1 x2; exact R_fn at19 0 (fnT_run Q140_ok ((e19 x0 x1 x2).trans h))
  · simp at h
noncomputable def Q19 : Qt := qcons 19 q19 Q140
theorem Q19_ok : QOk R Q19 := qcons_ok t19 Q140_ok
/-! impl.NumberOf -/
def g20_0 (x0 : Int) : Int := bif !g24_0 x0 then (0 : Int) else g137_0 x0
def r20_1 (x0 : Int) : Bool := bif !g24_0 x0 then false else true
theorem c20_1 (x0 : Int) : r20_1 x0 = g24_0 x0 := by simp only [r20_1, Bool.cond_self, bif_tf, bif_ft, Bool.not_not]
theorem d20 (x0 : Int) : fnT Q19 [] [] 0 F20 [.one (.lit (.int .i64 x0))] [] = some ((SV.tup [SV.one (T.lit (Value.int IntKind.i64 (g20_0 x0))), SV.one (T.lit (Value.bool (r20_1 x0)))], []), true) := by kernel_rfl
theorem e20 (x0 : Int) : fnT Q19 [] [] 0 F20 [.one (.lit (.int .i64 x0))] [] = some ((SV.tup [SV.one (T.lit (Value.int IntKind.i64 (g20_0 x0))), SV.one (T.lit (Value.bool (g24_0 x0)))], []), true) := by rw [d20, c20_1]
def q20 : List SV → List Blk → Option ((SV × List Blk) × Bool)
  | [.one (.lit (.int .i64 x0))], [] => some ((SV.tup [SV.one (T.lit (Value.int IntKind.i64 (g20_0 x0))), SV.one (T.lit (Value.bool (g24_0 x0)))], []), true)
  | _, _ => none
theorem t20 (args : List SV) (hp : List Blk) (r : SV × List Blk) (h : q20 args hp = some (r, true)) : R 20 args hp = some r := by
  unfold q20 at h
  split at h
  · rename_i x0; exact R_fn at20 0 (fnT_run Q19_ok ((e20 x0).trans h))
  · simp at h
noncomputable def Q20 : Qt := qcons 20 q20 Q19
theorem Q20_ok : QOk R Q20 := qcons_ok t20 Q19_ok
/-! spec.DrawBcdOf -/
def g21_0 (x0 : List Row) : Int := IntKind.wrap IntKind.i64 (g141_0 x0 (0 : Int) (0 : Int) (102 : Int) - (1 : Int))
theorem k21 (x0 : List Row) (h : (bytesOk x0) = true) : (bytesOk x0 && true && true && true) = true := by
  have h0 := h
  simp only [h0, Bool.and_true, Bool.true_and, Bool.or_true, Bool.true_or, Bool.or_false, Bool.false_or, Bool.and_self, Bool.cond_self, Bool.not_true, Bool.not_false, Bool.false_and, Bool.and_false]
theorem e21 (x0 : List Row) : fnT Q20 [] [] 0 F21 [.one (.imm true 1 x0)] [] = some ((SV.one (T.lit (Value.int IntKind.i64 (g21_0 x0))), []), bytesOk x0 && true && true && true) := by kernel_rfl
def q21 : List SV → List Blk → Option ((SV × List Blk) × Bool)
  | [.one (.imm true 1 x0)], [] => some ((SV.one (T.lit (Value.int IntKind.i64 (g21_0 x0))), []), bytesOk x0)
  | _, _ => none
theorem t21 (args : List SV) (hp : List Blk) (r : SV × List Blk) (h : q21 args hp = some (r, true)) : R 21 args hp = some r := by
  unfold q21 at h
  split at h
  · rename_i x0; exact R_fn at21 0 (fnT_run Q20_ok (okTrans (e21 x0) (k21 x0) h))
  · simp at h
noncomputable def Q21 : Qt := qcons 21 q21 Q20
theorem Q21_ok : QOk R Q21 := qcons_ok t21 Q20_ok
/-! impl.BcdOf -/
def g22_0 (x0 : Int) : Int := bif !g142_0 x0 (0 : Int) (99 : Int) then (0 : Int) else g143_0 x0
def r22_1 (x0 : Int) : Bool := bif !g142_0 x0 (0 : Int) (99 : Int) then false else true
def g22_1 (x0 : Int) : Bool := g142_0 x0 (0 : Int) (99 : Int)
theorem c22_1 (x0 : Int) : r22_1 x0 = g22_1 x0 := by simp only [r22_1, g22_1, Bool.cond_self, bif_tf, bif_ft, Bool.not_not]
theorem d22 (x0 : Int) : fnT Q21 [] [] 0 F22 [.one (.lit (.int .i64 x0))] [] = some ((SV.tup [SV.one (T.lit (Value.int IntKind.i64 (g22_0 x0))), SV.one (T.lit (Value.bool (r22_1 x0)))], []), true) := by kernel_rfl
theorem e22 (x0 : Int) : fnT Q21 [] [] 0 F22 [.one (.lit (.int .i64 x0))] [] = some ((SV.tup [SV.one (T.lit (Value.int IntKind.i64 (g22_0 x0))), SV.one (T.lit (Value.bool (g22_1 x0)))], []), true) := by rw [d22, c22_1]
def q22 : List SV → List Blk → Option ((SV × List Blk) × Bool)
  | [.one (.lit (.int .i64 x0))], [] => some ((SV.tup [SV.one (T.lit (Value.int IntKind.i64 (g22_0 x0))), SV.one (T.lit (Value.bool (g22_1 x0)))], []), true)
  | _, _ => none
theorem t22 (args : List SV) (hp : List Blk) (r : SV × List Blk) (h : q22 args hp = some (r, true)) : R 22 args hp = some r := by
  unfold q22 at h
  split at h
  · rename_i x0; exact R_fn at22 0 (fnT_run Q21_ok ((e22 x0).trans h))
  · simp at h
noncomputable def Q22 : Qt := qcons 22 q22 Q21
theorem Q22_ok : QOk R Q22 := qcons_ok t22 Q21_ok
/-! spec.BcdOf -/
def g23_0 (x0 : Int) : Int := bif !g144_0 x0 (0 : Int) (99 : Int) then (0 : Int) else g145_0 x0
def r23_1 (x0 : Int) : Bool := bif !g144_0 x0 (0 : Int) (99 : Int) then false else true
def g23_1 (x0 : Int) : Bool := g144_0 x0 (0 : Int) (99 : Int)
theorem c23_1 (x0 : Int) : r23_1 x0 = g23_1 x0 := by simp only [r23_1, g23_1, Bool.cond_self, bif_tf, bif_ft, Bool.not_not]
theorem d23 (x0 : Int) : fnT Q22 [] [] 0 F23 [.one (.lit (.int .i64 x0))] [] = some ((SV.tup [SV.one (T.lit (Value.int IntKind.i64 (g23_0 x0))), SV.one (T.lit (Value.bool (r23_1 x0)))], []), true) := by kernel_rfl
theorem e23 (x0 : Int) : fnT Q22 [] [] 0 F23 [.one (.lit (.int .i64 x0))] [] = some ((SV.tup [SV.one (T.lit (Value.int IntKind.i64 (g23_0 x0))), SV.one (T.lit (Value.bool (g23_1 x0)))], []), true) := by rw [d23, c23_1]
def q23 : List SV → List Blk → Option ((SV × List Blk) × Bool)
  | [.one (.lit (.int .i64 x0))], [] => some ((SV.tup [SV.one (T.lit (Value.int IntKind.i64 (g23_0 x0))), SV.one (T.lit (Value.bool (g23_1 x0)))], []), true)
  | _, _ => none
theorem t23 (args : List SV) (hp : List Blk) (r : SV × List Blk) (h : q23 args hp = some (r, true)) : R 23 args hp = some r := by
  unfold q23 at h
  split at h
  · rename_i x0; exact R_fn at23 0 (fnT_run Q22_ok ((e23 x0).trans h))
  · simp at h
noncomputable def Q23 : Qt := qcons 23 q23 Q22
theorem Q23_ok : QOk R Q23 := qcons_ok t23 Q22_ok
/-! spec.DrawIsBcd -/
def g25_0 (x0 : List Row) : Int := g134_0 x0 (0 : Int) (0 : Int)
theorem k25 (x0 : List Row) (h : (bytesOk x0) = true) : (bytesOk x0 && true && true && true) = true := by
  have h0 := h
  simp only [h0, Bool.and_true, Bool.true_and, Bool.or_true, Bool.true_or, Bool.or_false, Bool.false_or, Bool.and_self, Bool.cond_self, Bool.not_true, Bool.not_false, Bool.false_and, Bool.and_false]
theorem e25 (x0 : List Row) : fnT Q23 [] [] 0 F25 [.one (.imm true 1 x0)] [] = some ((SV.one (T.lit (Value.int IntKind.i64 (g25_0 x0))), []), bytesOk x0 && true && true && true) := by kernel_rfl
def q25 : List SV → List Blk → Option ((SV × List Blk) × Bool)
  | [.one (.imm true 1 x0)], [] => some ((SV.one (T.lit (Value.int IntKind.i64 (g25_0 x0))), []), bytesOk x0)
  | _, _ => none
theorem t25 (args : List SV) (hp : List Blk) (r : SV × List Blk) (h : q25 args hp = some (r, true)) : R 25 args hp = some r := by
  unfold q25 at h
  split at h
  · rename_i x0; exact R_fn at25 0 (fnT_run Q23_ok (okTrans (e25 x0) (k25 x0) h))
  · simp at h
noncomputable def Q25 : Qt := qcons 25 q25 Q23
theorem Q25_ok : QOk R Q25 := qcons_ok t25 Q23_ok
/-! spec.NumberOf -/
def g26_0 (x0 : Int) : Int := bif !g146_0 x0 then (0 : Int) else g147_0 x0
def r26_1 (x0 : Int) : Bool := bif !g146_0 x0 then false else true
theorem c26_1 (x0 : Int) : r26_1 x0 = g146_0 x0 := by simp only [r26_1, Bool.cond_self, bif_tf, bif_ft, Bool.not_not]
theorem d26 (x0 : Int) : fnT Q25 [] [] 0 F26 [.one (.lit (.int .i64 x0))] [] = some ((SV.tup [SV.one (T.lit (Value.int IntKind.i64 (g26_0 x0))), SV.one (T.lit (Value.bool (r26_1 x0)))], []), true) := by kernel_rfl
theorem e26 (x0 : Int) : fnT Q25 [] [] 0 F26 [.one (.lit (.int .i64 x0))] [] = some ((SV.tup [SV.one (T.lit (Value.int IntKind.i64 (g26_0 x0))), SV.one (T.lit (Value.bool (g146_0 x0)))], []), true) := by rw [d26, c26_1]
def q26 : List SV → List Blk → Option ((SV × List Blk) × Bool)
  | [.one (.lit (.int .i64 x0))], [] => some ((SV.tup [SV.one (T.lit (Value.int IntKind.i64 (g26_0 x0))), SV.one (T.lit (Value.bool (g146_0 x0)))], []), true)
  | _, _ => none
theorem t26 (args : List SV) (hp : List Blk) (r : SV × List Blk) (h : q26 args hp = some (r, true)) : R 26 args hp = some r := by
  unfold q26 at h
  split at h
  · rename_i x0; exact R_fn at26 0 (fnT_run Q25_ok ((e26 x0).trans h))
  · simp at h
noncomputable def Q26 : Qt := qcons 26 q26 Q25
theorem Q26_ok : QOk R Q26 := qcons_ok t26 Q25_ok
/-! laws.FnBcd -/
def g3_0 (x0 : List Row) (x1 : List Row) : Bool := bif decide (IntKind.wrap IntKind.i64 (↑(List.length x0) + ↑(List.length x1)) > (1048576 : Int)) then true else bif bif bif bif bif bif bif !g16_2 (g15_0 x0) (g15_1 x0) (g15_2 x0) == g17_2 (g15_0 x0) (g15_1 x0) (g15_2 x0) then true else g16_0 (g15_0 x0) (g15_1 x0) (g15_2 x0) != g17_0 (g15_0 x0) (g15_1 x0) (g15_2 x0) then true else g16_1 (g15_0 x0) (g15_1 x0) (g15_2 x0) != g17_1 (g15_0 x0) (g15_1 x0) (g15_2 x0) then true else !g18_2 (g15_0 x0) (g15_1 x0) (g15_2 x0) == g19_2 (g15_0 x0) (g15_1 x0) (g15_2 x0) then true else g18_0 (g15_0 x0) (g15_1 x0) (g15_2 x0) != g19_0 (g15_0 x0) (g15_1 x0) (g15_2 x0) then true else g18_1 (g15_0 x0) (g15_1 x0) (g15_2 x0) != g19_1 (g15_0 x0) (g15_1 x0) (g15_2 x0) then true else !g16_2 (g15_0 x0) (g15_1 x0) (g15_2 x0) == g18_2 (g15_0 x0) (g15_1 x0) (g15_2 x0) then false else bif (bif bif bif bif bif bif bif bif !g24_0 (g15_1 x0) then true else !g24_0 (g15_2 x0) then true else !g24_0 (g16_0 (g15_0 x0) (g15_1 x0) (g15_2 x0)) then true else !g24_0 (g18_0 (g15_0 x0) (g15_1 x0) (g15_2 x0)) then true else IntKind.wrap IntKind.i64 (IntKind.wrap IntKind.i64 (g20_0 (g15_1 x0) + g20_0 (g15_2 x0)) + g15_0 x0) != IntKind.wrap IntKind.i64 (g20_0 (g16_0 (g15_0 x0) (g15_1 x0) (g15_2 x0)) + IntKind.wrap IntKind.i64 ((100 : Int) * g16_1 (g15_0 x0) (g15_1 x0) (g15_2 x0))) then true else IntKind.wrap IntKind.i64 (IntKind.wrap IntKind.i64 (g20_0 (g15_1 x0) - g20_0 (g15_2 x0)) - g15_0 x0) != IntKind.wrap IntKind.i64 (g20_0 (g18_0 (g15_0 x0) (g15_1 x0) (g15_2 x0)) - IntKind.wrap IntKind.i64 ((100 : Int) * g18_1 (g15_0 x0) (g15_1 x0) (g15_2 x0))) then true else !g18_2 (g15_0 x0) (g16_0 (g15_0 x0) (g15_1 x0) (g15_2 x0)) (g15_2 x0) then true else g18_0 (g15_0 x0) (g16_0 (g15_0 x0) (g15_1 x0) (g15_2 x0)) (g15_2 x0) != g15_1 x0 then true else g18_1 (g15_0 x0) (g16_0 (g15_0 x0) (g15_1 x0) (g15_2 x0)) (g15_2 x0) != g16_1 (g15_0 x0) (g15_1 x0) (g15_2 x0)) && g16_2 (g15_0 x0) (g15_1 x0) (g15_2 x0) then false else bif bif !g22_1 (g21_0 x1) == g23_1 (g21_0 x1) then true else g22_0 (g21_0 x1) != g23_0 (g21_0 x1) then false else bif (bif bif !g24_0 (g22_0 (g21_0 x1)) then true else g20_0 (g22_0 (g21_0 x1)) != g21_0 x1 then true else !g24_0 (g22_0 (g21_0 x1))) && g22_1 (g21_0 x1) then false else bif bif g24_0 (g25_0 x1) == g146_0 (g25_0 x1) then g20_0 (g25_0 x1) == g26_0 (g25_0 x1) else false then g24_0 (g25_0 x1) == g24_0 (g25_0 x1) else false
theorem k3 (x0 : List Row) (x1 : List Row) (h : (bytesOk x0 && bytesOk x1) = true) : (bytesOk x0 && true && (bytesOk x1 && true && (bytesOk x1 && true && true || (bif bif !g24_0 (g22_0 (g21_0 x1)) then true else g20_0 (g22_0 (g21_0 x1)) != g21_0 x1 then true else !g24_0 (g22_0 (g21_0 x1))) && g22_1 (g21_0 x1) || bif !g22_1 (g21_0 x1) == g23_1 (g21_0 x1) then true else g22_0 (g21_0 x1) != g23_0 (g21_0 x1)) || (bif bif bif bif bif bif bif bif !g24_0 (g15_1 x0) then true else !g24_0 (g15_2 x0) then true else !g24_0 (g16_0 (g15_0 x0) (g15_1 x0) (g15_2 x0)) then true else !g24_0 (g18_0 (g15_0 x0) (g15_1 x0) (g15_2 x0)) then true else IntKind.wrap IntKind.i64 (IntKind.wrap IntKind.i64 (g20_0 (g15_1 x0) + g20_0 (g15_2 x0)) + g15_0 x0) != IntKind.wrap IntKind.i64 (g20_0 (g16_0 (g15_0 x0) (g15_1 x0) (g15_2 x0)) + IntKind.wrap IntKind.i64 ((100 : Int) * g16_1 (g15_0 x0) (g15_1 x0) (g15_2 x0))) then true else IntKind.wrap IntKind.i64 (IntKind.wrap IntKind.i64 (g20_0 (g15_1 x0) - g20_0 (g15_2 x0)) - g15_0 x0) != IntKind.wrap IntKind.i64 (g20_0 (g18_0 (g15_0 x0) (g15_1 x0) (g15_2 x0)) - IntKind.wrap IntKind.i64 ((100 : Int) * g18_1 (g15_0 x0) (g15_1 x0) (g15_2 x0))) then true else !g18_2 (g15_0 x0) (g16_0 (g15_0 x0) (g15_1 x0) (g15_2 x0)) (g15_2 x0) then true else g18_0 (g15_0 x0) (g16_0 (g15_0 x0) (g15_1 x0) (g15_2 x0)) (g15_2 x0) != g15_1 x0 then true else g18_1 (g15_0 x0) (g16_0 (g15_0 x0) (g15_1 x0) (g15_2 x0)) (g15_2 x0) != g16_1 (g15_0 x0) (g15_1 x0) (g15_2 x0)) && g16_2 (g15_0 x0) (g15_1 x0) (g15_2 x0) || bif bif bif bif bif bif !g16_2 (g15_0 x0) (g15_1 x0) (g15_2 x0) == g17_2 (g15_0 x0) (g15_1 x0) (g15_2 x0) then true else g16_0 (g15_0 x0) (g15_1 x0) (g15_2 x0) != g17_0 (g15_0 x0) (g15_1 x0) (g15_2 x0) then true else g16_1 (g15_0 x0) (g15_1 x0) (g15_2 x0) != g17_1 (g15_0 x0) (g15_1 x0) (g15_2 x0) then true else !g18_2 (g15_0 x0) (g15_1 x0) (g15_2 x0) == g19_2 (g15_0 x0) (g15_1 x0) (g15_2 x0) then true else g18_0 (g15_0 x0) (g15_1 x0) (g15_2 x0) != g19_0 (g15_0 x0) (g15_1 x0) (g15_2 x0) then true else g18_1 (g15_0 x0) (g15_1 x0) (g15_2 x0) != g19_1 (g15_0 x0) (g15_1 x0) (g15_2 x0) then true else !g16_2 (g15_0 x0) (g15_1 x0) (g15_2 x0) == g18_2 (g15_0 x0) (g15_1 x0) (g15_2 x0)) || decide (IntKind.wrap IntKind.i64 (↑(List.length x0) + ↑(List.length x1)) > (1048576 : Int))) = true := by
  obtain ⟨h0, h⟩ := Bool.and_eq_true_iff.1 h
  have h1 := h
  simp only [h0, h1, Bool.and_true, Bool.true_and, Bool.or_true, Bool.true_or, Bool.or_false, Bool.false_or, Bool.and_self, Bool.cond_self, Bool.not_true, Bool.not_false, Bool.false_and, Bool.and_false]
theorem e3 (x0 : List Row) (x1 : List Row) : fnT Q26 [] [] 0 F3 [.one (.imm true 1 x0), .one (.imm true 1 x1)] [] = some ((SV.one (T.lit (Value.bool (g3_0 x0 x1))), []), bytesOk x0 && true && (bytesOk x1 && true && (bytesOk x1 && true && true || (bif bif !g24_0 (g22_0 (g21_0 x1)) then true else g20_0 (g22_0 (g21_0 x1)) != g21_0 x1 then true else !g24_0 (g22_0 (g21_0 x1))) && g22_1 (g21_0 x1) || bif !g22_1 (g21_0 x1) == g23_1 (g21_0 x1) then true else g22_0 (g21_0 x1) != g23_0 (g21_0 x1)) || (bif bif bif bif bif bif bif bif !g24_0 (g15_1 x0) then true else !g24_0 (g15_2 x0) then true else !g24_0 (g16_0 (g15_0 x0) (g15_1 x0) (g15_2 x0)) then true else !g24_0 (g18_0 (g15_0 x0) (g15_1 x0) (g15_2 x0)) then true else IntKind.wrap IntKind.i64 (IntKind.wrap IntKind.i64 (g20_0 (g15_1 x0) + g20_0 (g15_2 x0)) + g15_0 x0) != IntKind.wrap IntKind.i64 (g20_0 (g16_0 (g15_0 x0) (g15_1 x0) (g15_2 x0)) + IntKind.wrap IntKind.i64 ((100 : Int) * g16_1 (g15_0 x0) (g15_1 x0) (g15_2 x0))) then true else IntKind.wrap IntKind.i64 (IntKind.wrap IntKind.i64 (g20_0 (g15_1 x0) - g20_0 (g15_2 x0)) - g15_0 x0) != IntKind.wrap IntKind.i64 (g20_0 (g18_0 (g15_0 x0) (g15_1 x0) (g15_2 x0)) - IntKind.wrap IntKind.i64 ((100 : Int) * g18_1 (g15_0 x0) (g15_1 x0) (g15_2 x0))) then true else !g18_2 (g15_0 x0) (g16_0 (g15_0 x0) (g15_1 x0) (g15_2 x0)) (g15_2 x0) then true else g18_0 (g15_0 x0) (g16_0 (g15_0 x0) (g15_1 x0) (g15_2 x0)) (g15_2 x0) != g15_1 x0 then true else g18_1 (g15_0 x0) (g16_0 (g15_0 x0) (g15_1 x0) (g15_2 x0)) (g15_2 x0) != g16_1 (g15_0 x0) (g15_1 x0) (g15_2 x0)) && g16_2 (g15_0 x0) (g15_1 x0) (g15_2 x0) || bif bif bif bif bif bif !g16_2 (g15_0 x0) (g15_1 x0) (g15_2 x0) == g17_2 (g15_0 x0) (g15_1 x0) (g15_2 x0) then true else g16_0 (g15_0 x0) (g15_1 x0) (g15_2 x0) != g17_0 (g15_0 x0) (g15_1 x0) (g15_2 x0) then true else g16_1 (g15_0 x0) (g15_1 x0) (g15_2 x0) != g17_1 (g15_0 x0) (g15_1 x0) (g15_2 x0) then true else !g18_2 (g15_0 x0) (g15_1 x0) (g15_2 x0) == g19_2 (g15_0 x0) (g15_1 x0) (g15_2 x0) then true else g18_0 (g15_0 x0) (g15_1 x0) (g15_2 x0) != g19_0 (g15_0 x0) (g15_1 x0) (g15_2 x0) then true else g18_1 (g15_0 x0) (g15_1 x0) (g15_2 x0) != g19_1 (g15_0 x0) (g15_1 x0) (g15_2 x0) then true else !g16_2 (g15_0 x0) (g15_1 x0) (g15_2 x0) == g18_2 (g15_0 x0) (g15_1 x0) (g15_2 x0)) || decide (IntKind.wrap IntKind.i64 (↑(List.length x0) + ↑(List.length x1)) > (1048576 : Int))) := by kernel_rfl
def q3 : List SV → List Blk → Option ((SV × List Blk) × Bool)
  | [.one (.imm true 1 x0), .one (.imm true 1 x1)], [] => some ((SV.one (T.lit (Value.bool (g3_0 x0 x1))), []), bytesOk x0 && bytesOk x1)
  | _, _ => none
theorem t3 (args : List SV) (hp : List Blk) (r : SV × List Blk) (h : q3 args hp = some (r, true)) : R 3 args hp = some r := by
  unfold q3 at h
  split at h
  · rename_i x0 x1; exact R_fn at3 0 (fnT_run Q26_ok (okTrans (e3 x0 x1) (k3 x0 x1) h))
  · simp at h
noncomputable def Q3 : Qt := qcons 3 q3 Q26
theorem Q3_ok : QOk R Q3 := qcons_ok t3 Q26_ok
end Go.Proofs.YtckjibiolfapiaaBcd
