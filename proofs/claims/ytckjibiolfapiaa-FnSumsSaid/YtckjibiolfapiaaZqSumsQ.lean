/- What each function gives, and that it does. Printed. -/
import Derived.Test.YtckjibiolfapiaaZqTabSums
import Derived.Test.YtckjibiolfapiaaZqCur
import Derived.KernelRfl
import Derived.Test.YtckjibiolfapiaaZqSumsR
set_option linter.unusedVariables false
set_option linter.unusedSimpArgs false
namespace Go.Proofs.YtckjibiolfapiaaSums
open Go Go.Zq
set_option maxRecDepth 100000
/-! (*spec.l1Cur).next -/
theorem e217 (x0_0 : List Row) (x0_1 : Int) (x0_2 : Int) : fnT qnil [(7, [.int .i64]), (11, [.imm 1]), (17, [.imm 1]), (21, [.int .i64]), (22, [.int .u8]), (23, [.int .u8]), (28, [.int .i64]), (36, [.int .u64]), (47, [.int .i64]), (51, [.imm 1]), (58, [.int .u64])] [] 0 F217 [.one (.ptr 0 0 0)] [.box [.imm true 1 x0_0, .lit (.int .i64 x0_1), .lit (.int .u64 x0_2)]] = some ((SV.one (T.lit (Value.int IntKind.i64 (bif decide (IntKind.wrap IntKind.i64 (x0_1 + (1 : Int)) ≤ ↑(List.length x0_0)) then bif decide (x0_1 < ↑(List.length x0_0)) then IntKind.wrap IntKind.i64 (intAt x0_0 (Int.toNat x0_1) (0 : Nat)) else (0 : Int) else farOf (seedOf x0_2 (bif decide (x0_1 < ↑(List.length x0_0)) then IntKind.wrap IntKind.i64 (intAt x0_0 (Int.toNat x0_1) (0 : Nat)) else (0 : Int)))))),
      [Blk.box [T.imm true (1 : Nat) (bif decide (IntKind.wrap IntKind.i64 (x0_1 + (1 : Int)) ≤ ↑(List.length x0_0)) then x0_0 else x0_0), T.lit (Value.int IntKind.i64 (bif decide (IntKind.wrap IntKind.i64 (x0_1 + (1 : Int)) ≤ ↑(List.length x0_0)) then IntKind.wrap IntKind.i64 (x0_1 + (1 : Int)) else IntKind.wrap IntKind.i64 (x0_1 + (1 : Int)))),
        T.lit (Value.int IntKind.u64 (bif decide (IntKind.wrap IntKind.i64 (x0_1 + (1 : Int)) ≤ ↑(List.length x0_0)) then seedOf x0_2 (bif decide (x0_1 < ↑(List.length x0_0)) then IntKind.wrap IntKind.i64 (intAt x0_0 (Int.toNat x0_1) (0 : Nat)) else (0 : Int)) else seedOf x0_2 (bif decide (x0_1 < ↑(List.length x0_0)) then IntKind.wrap IntKind.i64 (intAt x0_0 (Int.toNat x0_1) (0 : Nat)) else (0 : Int))))]]),
      (inRow [Kd.int IntKind.u8] x0_0 x0_1 && true || !decide (x0_1 < ↑(List.length x0_0))) && true && true) := by kernel_rfl
def q217 : List SV → List Blk → Option ((SV × List Blk) × Bool)
  | [.one (.ptr 0 0 0)], [.box [.imm true 1 x0_0, .lit (.int .i64 x0_1), .lit (.int .u64 x0_2)]] => some ((SV.one (T.lit (Value.int IntKind.i64 (nextV x0_0 x0_1 x0_2))), [Blk.box [T.imm true 1 x0_0, T.lit (Value.int IntKind.i64 (x0_1 + 1)), T.lit (Value.int IntKind.u64 (nextS x0_0 x0_1 x0_2))]]), okTo 0 x0_1 && bytesOk x0_0)
  | _, _ => none
theorem t217 (args : List SV) (hp : List Blk) (r : SV × List Blk) (h : q217 args hp = some (r, true)) : R 217 args hp = some r := by
  unfold q217 at h
  split at h
  · exact R_fn at217 0 (fnT_run qnil_ok ((e217 _ _ _).trans (next_raw h)))
  · simp at h
noncomputable def Q217 : Qt := qcons 217 q217 qnil
theorem Q217_ok : QOk R Q217 := qcons_ok t217 qnil_ok
/-! (*spec.l1Cur).pick -/
def g141_0 (x0_0 : List Row) (x0_1 : Int) (x0_2 : Int) (x1 : Int) : Int := bif decide (x1 ≤ (1 : Int)) then (0 : Int) else Int.tmod (bif decide (x1 > (200 : Int)) then IntKind.wrap IntKind.i64 (IntKind.wrap IntKind.i64 (nextV x0_0 x0_1 x0_2 * (256 : Int)) + nextV x0_0 (x0_1 + (1 : Int)) (nextS x0_0 x0_1 x0_2)) else nextV x0_0 x0_1 x0_2) x1
def r141_1 (x0_0 : List Row) (x1 : Int) : List (List T) := bif decide (x1 ≤ (1 : Int)) then x0_0 else bif decide (x1 > (200 : Int)) then x0_0 else x0_0
theorem c141_1 (x0_0 : List Row) (x1 : Int) : r141_1 x0_0 x1 = x0_0 := by simp only [r141_1, Bool.cond_self, bif_tf, bif_ft, Bool.not_not]
def r141_2 (x0_1 : Int) (x1 : Int) : Int := bif decide (x1 ≤ (1 : Int)) then x0_1 else bif decide (x1 > (200 : Int)) then x0_1 + (1 : Int) + (1 : Int) else x0_1 + (1 : Int)
def g141_2 (x1 : Int) : Int := bif decide (x1 ≤ (1 : Int)) then (0 : Int) else bif decide (x1 > (200 : Int)) then (1 : Int) + (1 : Int) else (1 : Int)
theorem b141_2 (x1 : Int) : bd (g141_2 x1) 2 := by
  unfold g141_2
  exact (bd_cond (u := 0) (v := 2) (w := 2) ⟨by decide, by decide⟩ (bd_cond (u := 2) (v := 1) (w := 2) (bd_add (u := 1) (v := 1) (w := 2) ⟨by decide, by decide⟩ ⟨by decide, by decide⟩ (by decide)) ⟨by decide, by decide⟩ (by decide) (by decide)) (by decide) (by decide))
theorem c141_2 (x0_1 : Int) (x1 : Int) : r141_2 x0_1 x1 = x0_1 + g141_2 x1 := by simp only [r141_2, g141_2, bif_p1 x0_1, bif_p2 x0_1, bif_p3 x0_1, Int.add_assoc, Bool.cond_self]
def g141_3 (x0_0 : List Row) (x0_1 : Int) (x0_2 : Int) (x1 : Int) : Int := bif decide (x1 ≤ (1 : Int)) then x0_2 else bif decide (x1 > (200 : Int)) then nextS x0_0 (x0_1 + (1 : Int)) (nextS x0_0 x0_1 x0_2) else nextS x0_0 x0_1 x0_2
theorem k141 (x0_0 : List Row) (x0_1 : Int) (x0_2 : Int) (x1 : Int) (h : (bytesOk x0_0 && (okTo (1 : Int) x0_1 && (x1 != (0 : Int) || decide (x1 ≤ (1 : Int))))) = true) : (okTo (0 : Int) x0_1 && bytesOk x0_0 && true && ((okTo (0 : Int) (x0_1 + (1 : Int)) && bytesOk x0_0 && true || !decide (x1 > (200 : Int))) && true && (x1 != (0 : Int) && true && true)) || decide (x1 ≤ (1 : Int))) = true := by
  obtain ⟨h0, h⟩ := Bool.and_eq_true_iff.1 h
  obtain ⟨h1, h⟩ := Bool.and_eq_true_iff.1 h
  have h2 := h
  have p0 : (okTo (0 : Int) x0_1) = true := (okTo_le (v := 0) h1 (by decide))
  have p1 : (okTo (0 : Int) (x0_1 + (1 : Int))) = true := (okTo_add (u := 1) (v := 0) (w := 1) (okTo_le (v := 1) h1 (by decide)) ⟨by decide, by decide⟩ (by decide))
  simp only [h0, h2, p0, p1, Bool.and_true, Bool.true_and, Bool.or_true, Bool.true_or, Bool.or_false, Bool.false_or, Bool.and_self, Bool.cond_self, Bool.not_true, Bool.not_false, Bool.false_and, Bool.and_false, u64_dec]
theorem d141 (x0_0 : List Row) (x0_1 : Int) (x0_2 : Int) (x1 : Int) : fnT Q217 [] [] 0 F141 [.one (.ptr 0 0 0), .one (.lit (.int .i64 x1))] [.box [.imm true 1 x0_0, .lit (.int .i64 x0_1), .lit (.int .u64 x0_2)]] = some ((SV.one (T.lit (Value.int IntKind.i64 (g141_0 x0_0 x0_1 x0_2 x1))), [Blk.box [T.imm true (1 : Nat) (r141_1 x0_0 x1), T.lit (Value.int IntKind.i64 (r141_2 x0_1 x1)), T.lit (Value.int IntKind.u64 (g141_3 x0_0 x0_1 x0_2 x1))]]), okTo (0 : Int) x0_1 && bytesOk x0_0 && true && ((okTo (0 : Int) (x0_1 + (1 : Int)) && bytesOk x0_0 && true || !decide (x1 > (200 : Int))) && true && (x1 != (0 : Int) && true && true)) || decide (x1 ≤ (1 : Int))) := by kernel_rfl
theorem e141 (x0_0 : List Row) (x0_1 : Int) (x0_2 : Int) (x1 : Int) : fnT Q217 [] [] 0 F141 [.one (.ptr 0 0 0), .one (.lit (.int .i64 x1))] [.box [.imm true 1 x0_0, .lit (.int .i64 x0_1), .lit (.int .u64 x0_2)]] = some ((SV.one (T.lit (Value.int IntKind.i64 (g141_0 x0_0 x0_1 x0_2 x1))), [Blk.box [T.imm true (1 : Nat) x0_0, T.lit (Value.int IntKind.i64 (x0_1 + g141_2 x1)), T.lit (Value.int IntKind.u64 (g141_3 x0_0 x0_1 x0_2 x1))]]), okTo (0 : Int) x0_1 && bytesOk x0_0 && true && ((okTo (0 : Int) (x0_1 + (1 : Int)) && bytesOk x0_0 && true || !decide (x1 > (200 : Int))) && true && (x1 != (0 : Int) && true && true)) || decide (x1 ≤ (1 : Int))) := by rw [d141, c141_1, c141_2]
def q141 : List SV → List Blk → Option ((SV × List Blk) × Bool)
  | [.one (.ptr 0 0 0), .one (.lit (.int .i64 x1))], [.box [.imm true 1 x0_0, .lit (.int .i64 x0_1), .lit (.int .u64 x0_2)]] => some ((SV.one (T.lit (Value.int IntKind.i64 (g141_0 x0_0 x0_1 x0_2 x1))), [Blk.box [T.imm true (1 : Nat) x0_0, T.lit (Value.int IntKind.i64 (x0_1 + g141_2 x1)), T.lit (Value.int IntKind.u64 (g141_3 x0_0 x0_1 x0_2 x1))]]), bytesOk x0_0 && (okTo (1 : Int) x0_1 && (x1 != (0 : Int) || decide (x1 ≤ (1 : Int)))))
  | _, _ => none
theorem t141 (args : List SV) (hp : List Blk) (r : SV × List Blk) (h : q141 args hp = some (r, true)) : R 141 args hp = some r := by
  unfold q141 at h
  split at h
  · rename_i x1 x0_0 x0_1 x0_2; exact R_fn at141 0 (fnT_run Q217_ok (okTrans (e141 x0_0 x0_1 x0_2 x1) (k141 x0_0 x0_1 x0_2 x1) h))
  · simp at h
noncomputable def Q141 : Qt := qcons 141 q141 Q217
theorem Q141_ok : QOk R Q141 := qcons_ok t141 Q217_ok
theorem pick_rng {rows : List Row} (hb : bytesOk rows = true) {p : Int} (h0 : 0 ≤ p) (s : Int) {n : Int} (hn : 2 ≤ n) : 0 ≤ g141_0 rows p s n ∧ g141_0 rows p s n < n := by
  unfold g141_0
  have e1 : decide (n ≤ (1 : Int)) = false := by simp; omega
  rw [e1, cond_false]
  have r1 := nextV_rng hb h0 s
  have r2 := nextV_rng hb (show 0 ≤ p + 1 by omega) (nextS rows p s)
  have hx : 0 ≤ (bif decide (n > (200 : Int)) then IntKind.wrap IntKind.i64 (IntKind.wrap IntKind.i64 (nextV rows p s * (256 : Int)) + nextV rows (p + (1 : Int)) (nextS rows p s)) else nextV rows p s) := by
    cases decide (n > (200 : Int))
    · exact r1.1
    · simp only [cond_true, IntKind.wrap_i64]
      omega
  exact ⟨Int.tmod_nonneg _ hx, Int.tmod_lt_of_pos _ (by omega)⟩
/-! (*spec.l1Cur).among -/
def g133_0 (x0_0 : List Row) (x0_1 : Int) (x0_2 : Int) (x1 : List Row) : Int := intAt x1 (Int.toNat (g141_0 x0_0 x0_1 x0_2 ↑(List.length x1))) (0 : Nat)
def r133_1 (x0_1 : Int) (x1 : List Row) : Int := x0_1 + g141_2 ↑(List.length x1)
def g133_1 (x1 : List Row) : Int := g141_2 ↑(List.length x1)
theorem b133_1 (x1 : List Row) : bd (g133_1 x1) 2 := by
  unfold g133_1
  exact (b141_2 _)
theorem c133_1 (x0_1 : Int) (x1 : List Row) : r133_1 x0_1 x1 = x0_1 + g133_1 x1 := by simp only [r133_1, g133_1, bif_p1 x0_1, bif_p2 x0_1, bif_p3 x0_1, Int.add_assoc, Bool.cond_self]
def g133_2 (x0_0 : List Row) (x0_1 : Int) (x0_2 : Int) (x1 : List Row) : Int := g141_3 x0_0 x0_1 x0_2 ↑(List.length x1)
theorem k133 (x0_0 : List Row) (x0_1 : Int) (x0_2 : Int) (px1 : Bool) (x1 : List Row) (h : (bytesOk x0_0 && (okTo (2 : Int) x0_1 && listOk x1)) = true) : (bytesOk x0_0 && (okTo (1 : Int) x0_1 && (↑(List.length x1) != (0 : Int) || decide (↑(List.length x1) ≤ (1 : Int)))) && (inRow [Kd.int IntKind.i64] x1 (g141_0 x0_0 x0_1 x0_2 ↑(List.length x1)) && true) && true) = true := by
  obtain ⟨h0, h⟩ := Bool.and_eq_true_iff.1 h
  obtain ⟨h1, h2⟩ := Bool.and_eq_true_iff.1 h
  have hl : 2 ≤ x1.length := by simp only [listOk, Bool.and_eq_true, decide_eq_true_eq] at h2; exact h2.1
  have hp := (okTo_iff.1 h1).1
  have hr := pick_rng h0 hp x0_2 (n := (x1.length : Int)) (by omega)
  have hi := inRow_list h2 hr.1 hr.2
  have hne : ((x1.length : Int) != 0) = true := by rw [bne_iff_ne]; omega
  have h1' : okTo 1 x0_1 = true := okTo_le h1 (by decide)
  simp only [h0, h1', hi, hne, Bool.and_true, Bool.true_and, Bool.or_true, Bool.true_or]
theorem d133 (x0_0 : List Row) (x0_1 : Int) (x0_2 : Int) (px1 : Bool) (x1 : List Row) : fnT Q141 [(10, [.int .i64]), (11, [.int .i64])] [] 0 F133 [.one (.ptr 0 0 0), .one (.imm px1 1 x1)] [.box [.imm true 1 x0_0, .lit (.int .i64 x0_1), .lit (.int .u64 x0_2)]] = some ((SV.one (T.lit (Value.int IntKind.i64 (g133_0 x0_0 x0_1 x0_2 x1))), [Blk.box [T.imm true (1 : Nat) x0_0, T.lit (Value.int IntKind.i64 (r133_1 x0_1 x1)), T.lit (Value.int IntKind.u64 (g133_2 x0_0 x0_1 x0_2 x1))]]), bytesOk x0_0 && (okTo (1 : Int) x0_1 && (↑(List.length x1) != (0 : Int) || decide (↑(List.length x1) ≤ (1 : Int)))) && (inRow [Kd.int IntKind.i64] x1 (g141_0 x0_0 x0_1 x0_2 ↑(List.length x1)) && true) && true) := by kernel_rfl
theorem e133 (x0_0 : List Row) (x0_1 : Int) (x0_2 : Int) (px1 : Bool) (x1 : List Row) : fnT Q141 [(10, [.int .i64]), (11, [.int .i64])] [] 0 F133 [.one (.ptr 0 0 0), .one (.imm px1 1 x1)] [.box [.imm true 1 x0_0, .lit (.int .i64 x0_1), .lit (.int .u64 x0_2)]] = some ((SV.one (T.lit (Value.int IntKind.i64 (g133_0 x0_0 x0_1 x0_2 x1))), [Blk.box [T.imm true (1 : Nat) x0_0, T.lit (Value.int IntKind.i64 (x0_1 + g133_1 x1)), T.lit (Value.int IntKind.u64 (g133_2 x0_0 x0_1 x0_2 x1))]]), bytesOk x0_0 && (okTo (1 : Int) x0_1 && (↑(List.length x1) != (0 : Int) || decide (↑(List.length x1) ≤ (1 : Int)))) && (inRow [Kd.int IntKind.i64] x1 (g141_0 x0_0 x0_1 x0_2 ↑(List.length x1)) && true) && true) := by rw [d133, c133_1]
def q133 : List SV → List Blk → Option ((SV × List Blk) × Bool)
  | [.one (.ptr 0 0 0), .one (.imm px1 1 x1)], [.box [.imm true 1 x0_0, .lit (.int .i64 x0_1), .lit (.int .u64 x0_2)]] => some ((SV.one (T.lit (Value.int IntKind.i64 (g133_0 x0_0 x0_1 x0_2 x1))), [Blk.box [T.imm true (1 : Nat) x0_0, T.lit (Value.int IntKind.i64 (x0_1 + g133_1 x1)), T.lit (Value.int IntKind.u64 (g133_2 x0_0 x0_1 x0_2 x1))]]), bytesOk x0_0 && (okTo (2 : Int) x0_1 && listOk x1))
  | _, _ => none
theorem t133 (args : List SV) (hp : List Blk) (r : SV × List Blk) (h : q133 args hp = some (r, true)) : R 133 args hp = some r := by
  unfold q133 at h
  split at h
  · rename_i px1 x1 x0_0 x0_1 x0_2; exact R_fn at133 0 (fnT_run Q141_ok (okTrans (e133 x0_0 x0_1 x0_2 px1 x1) (k133 x0_0 x0_1 x0_2 px1 x1) h))
  · simp at h
noncomputable def Q133 : Qt := qcons 133 q133 Q141
theorem Q133_ok : QOk R Q133 := qcons_ok t133 Q141_ok
/-! (*spec.l1Cur).size -/
def g148_0 (x0_0 : List Row) (x0_1 : Int) (x0_2 : Int) : Int := g133_0 x0_0 x0_1 x0_2 (ri [(1 : Int), (2 : Int), (2 : Int), (1 : Int), (1 : Int), (2 : Int), (2 : Int), (2 : Int), (0 : Int), (3 : Int)])
def r148_1 (x0_1 : Int) : Int := x0_1 + (1 : Int)
theorem c148_1 (x0_1 : Int) : r148_1 x0_1 = x0_1 + (1 : Int) := by simp only [r148_1, bif_p1 x0_1, bif_p2 x0_1, bif_p3 x0_1, Int.add_assoc, Bool.cond_self]
def g148_2 (x0_0 : List Row) (x0_1 : Int) (x0_2 : Int) : Int := g133_2 x0_0 x0_1 x0_2 (ri [(1 : Int), (2 : Int), (2 : Int), (1 : Int), (1 : Int), (2 : Int), (2 : Int), (2 : Int), (0 : Int), (3 : Int)])
theorem k148 (x0_0 : List Row) (x0_1 : Int) (x0_2 : Int) (h : (bytesOk x0_0 && okTo (2 : Int) x0_1) = true) : (bytesOk x0_0 && (okTo (2 : Int) x0_1 && true) && true && true) = true := by
  obtain ⟨h0, h⟩ := Bool.and_eq_true_iff.1 h
  have h1 := h
  have p0 : (okTo (2 : Int) x0_1) = true := (okTo_le (v := 2) h1 (by decide))
  simp only [h0, p0, Bool.and_true, Bool.true_and, Bool.or_true, Bool.true_or, Bool.or_false, Bool.false_or, Bool.and_self, Bool.cond_self, Bool.not_true, Bool.not_false, Bool.false_and, Bool.and_false, u64_dec]
theorem d148 (x0_0 : List Row) (x0_1 : Int) (x0_2 : Int) : fnT Q133 [] [] 0 F148 [.one (.ptr 0 0 0)] [.box [.imm true 1 x0_0, .lit (.int .i64 x0_1), .lit (.int .u64 x0_2)]] = some ((SV.one (T.lit (Value.int IntKind.i64 (g148_0 x0_0 x0_1 x0_2))), [Blk.box [T.imm true (1 : Nat) x0_0, T.lit (Value.int IntKind.i64 (r148_1 x0_1)), T.lit (Value.int IntKind.u64 (g148_2 x0_0 x0_1 x0_2))]]), bytesOk x0_0 && (okTo (2 : Int) x0_1 && true) && true && true) := by kernel_rfl
theorem e148 (x0_0 : List Row) (x0_1 : Int) (x0_2 : Int) : fnT Q133 [] [] 0 F148 [.one (.ptr 0 0 0)] [.box [.imm true 1 x0_0, .lit (.int .i64 x0_1), .lit (.int .u64 x0_2)]] = some ((SV.one (T.lit (Value.int IntKind.i64 (g148_0 x0_0 x0_1 x0_2))), [Blk.box [T.imm true (1 : Nat) x0_0, T.lit (Value.int IntKind.i64 (x0_1 + (1 : Int))), T.lit (Value.int IntKind.u64 (g148_2 x0_0 x0_1 x0_2))]]), bytesOk x0_0 && (okTo (2 : Int) x0_1 && true) && true && true) := by rw [d148, c148_1]
def q148 : List SV → List Blk → Option ((SV × List Blk) × Bool)
  | [.one (.ptr 0 0 0)], [.box [.imm true 1 x0_0, .lit (.int .i64 x0_1), .lit (.int .u64 x0_2)]] => some ((SV.one (T.lit (Value.int IntKind.i64 (g148_0 x0_0 x0_1 x0_2))), [Blk.box [T.imm true (1 : Nat) x0_0, T.lit (Value.int IntKind.i64 (x0_1 + (1 : Int))), T.lit (Value.int IntKind.u64 (g148_2 x0_0 x0_1 x0_2))]]), bytesOk x0_0 && okTo (2 : Int) x0_1)
  | _, _ => none
theorem t148 (args : List SV) (hp : List Blk) (r : SV × List Blk) (h : q148 args hp = some (r, true)) : R 148 args hp = some r := by
  unfold q148 at h
  split at h
  · rename_i x0_0 x0_1 x0_2; exact R_fn at148 0 (fnT_run Q133_ok (okTrans (e148 x0_0 x0_1 x0_2) (k148 x0_0 x0_1 x0_2) h))
  · simp at h
noncomputable def Q148 : Qt := qcons 148 q148 Q133
theorem Q148_ok : QOk R Q148 := qcons_ok t148 Q133_ok
/-! (*spec.l1Cur).one -/
def g167_0 (x0_0 : List Row) (x0_1 : Int) (x0_2 : Int) (x1 : Int) : Bool := g141_0 x0_0 x0_1 x0_2 x1 == (0 : Int)
def r167_1 (x0_1 : Int) (x1 : Int) : Int := x0_1 + g141_2 x1
def g167_1 (x1 : Int) : Int := g141_2 x1
theorem b167_1 (x1 : Int) : bd (g167_1 x1) 2 := by
  unfold g167_1
  exact (b141_2 _)
theorem c167_1 (x0_1 : Int) (x1 : Int) : r167_1 x0_1 x1 = x0_1 + g167_1 x1 := by simp only [r167_1, g167_1, bif_p1 x0_1, bif_p2 x0_1, bif_p3 x0_1, Int.add_assoc, Bool.cond_self]
def g167_2 (x0_0 : List Row) (x0_1 : Int) (x0_2 : Int) (x1 : Int) : Int := g141_3 x0_0 x0_1 x0_2 x1
theorem k167 (x0_0 : List Row) (x0_1 : Int) (x0_2 : Int) (x1 : Int) (h : (bytesOk x0_0 && (okTo (1 : Int) x0_1 && (x1 != (0 : Int) || decide (x1 ≤ (1 : Int))))) = true) : (bytesOk x0_0 && (okTo (1 : Int) x0_1 && (x1 != (0 : Int) || decide (x1 ≤ (1 : Int)))) && true && true) = true := by
  obtain ⟨h0, h⟩ := Bool.and_eq_true_iff.1 h
  obtain ⟨h1, h⟩ := Bool.and_eq_true_iff.1 h
  have h2 := h
  have p0 : (okTo (1 : Int) x0_1) = true := (okTo_le (v := 1) h1 (by decide))
  simp only [h0, h2, p0, Bool.and_true, Bool.true_and, Bool.or_true, Bool.true_or, Bool.or_false, Bool.false_or, Bool.and_self, Bool.cond_self, Bool.not_true, Bool.not_false, Bool.false_and, Bool.and_false, u64_dec]
theorem d167 (x0_0 : List Row) (x0_1 : Int) (x0_2 : Int) (x1 : Int) : fnT Q148 [] [] 0 F167 [.one (.ptr 0 0 0), .one (.lit (.int .i64 x1))] [.box [.imm true 1 x0_0, .lit (.int .i64 x0_1), .lit (.int .u64 x0_2)]] = some ((SV.one (T.lit (Value.bool (g167_0 x0_0 x0_1 x0_2 x1))), [Blk.box [T.imm true (1 : Nat) x0_0, T.lit (Value.int IntKind.i64 (r167_1 x0_1 x1)), T.lit (Value.int IntKind.u64 (g167_2 x0_0 x0_1 x0_2 x1))]]), bytesOk x0_0 && (okTo (1 : Int) x0_1 && (x1 != (0 : Int) || decide (x1 ≤ (1 : Int)))) && true && true) := by kernel_rfl
theorem e167 (x0_0 : List Row) (x0_1 : Int) (x0_2 : Int) (x1 : Int) : fnT Q148 [] [] 0 F167 [.one (.ptr 0 0 0), .one (.lit (.int .i64 x1))] [.box [.imm true 1 x0_0, .lit (.int .i64 x0_1), .lit (.int .u64 x0_2)]] = some ((SV.one (T.lit (Value.bool (g167_0 x0_0 x0_1 x0_2 x1))), [Blk.box [T.imm true (1 : Nat) x0_0, T.lit (Value.int IntKind.i64 (x0_1 + g167_1 x1)), T.lit (Value.int IntKind.u64 (g167_2 x0_0 x0_1 x0_2 x1))]]), bytesOk x0_0 && (okTo (1 : Int) x0_1 && (x1 != (0 : Int) || decide (x1 ≤ (1 : Int)))) && true && true) := by rw [d167, c167_1]
def q167 : List SV → List Blk → Option ((SV × List Blk) × Bool)
  | [.one (.ptr 0 0 0), .one (.lit (.int .i64 x1))], [.box [.imm true 1 x0_0, .lit (.int .i64 x0_1), .lit (.int .u64 x0_2)]] => some ((SV.one (T.lit (Value.bool (g167_0 x0_0 x0_1 x0_2 x1))), [Blk.box [T.imm true (1 : Nat) x0_0, T.lit (Value.int IntKind.i64 (x0_1 + g167_1 x1)), T.lit (Value.int IntKind.u64 (g167_2 x0_0 x0_1 x0_2 x1))]]), bytesOk x0_0 && (okTo (1 : Int) x0_1 && (x1 != (0 : Int) || decide (x1 ≤ (1 : Int)))))
  | _, _ => none
theorem t167 (args : List SV) (hp : List Blk) (r : SV × List Blk) (h : q167 args hp = some (r, true)) : R 167 args hp = some r := by
  unfold q167 at h
  split at h
  · rename_i x1 x0_0 x0_1 x0_2; exact R_fn at167 0 (fnT_run Q148_ok (okTrans (e167 x0_0 x0_1 x0_2 x1) (k167 x0_0 x0_1 x0_2 x1) h))
  · simp at h
noncomputable def Q167 : Qt := qcons 167 q167 Q148
theorem Q167_ok : QOk R Q167 := qcons_ok t167 Q148_ok
/-! (*spec.l1Cur).value -/
def g166_0 (x0_0 : List Row) (x0_1 : Int) (x0_2 : Int) : Int := bif g167_0 x0_0 x0_1 x0_2 (2 : Int) then g133_0 x0_0 (x0_1 + (1 : Int)) (g167_2 x0_0 x0_1 x0_2 (2 : Int)) (ri [(0 : Int), (1 : Int), (127 : Int), (128 : Int), (255 : Int), (256 : Int), (32767 : Int), (32768 : Int), (65535 : Int), (65536 : Int), (-1 : Int)]) else IntKind.wrap IntKind.i64 (IntKind.wrap IntKind.i64 (IntKind.wrap IntKind.i64 (g141_0 x0_0 (x0_1 + (1 : Int)) (g167_2 x0_0 x0_1 x0_2 (2 : Int)) (256 : Int) * g141_0 x0_0 (x0_1 + (1 : Int) + (2 : Int)) (g141_3 x0_0 (x0_1 + (1 : Int)) (g167_2 x0_0 x0_1 x0_2 (2 : Int)) (256 : Int)) (2 : Int)) * (256 : Int)) + g141_0 x0_0 (x0_1 + (1 : Int) + (2 : Int) + (1 : Int)) (g141_3 x0_0 (x0_1 + (1 : Int) + (2 : Int)) (g141_3 x0_0 (x0_1 + (1 : Int)) (g167_2 x0_0 x0_1 x0_2 (2 : Int)) (256 : Int)) (2 : Int)) (256 : Int))
def r166_1 (x0_0 : List Row) (x0_1 : Int) (x0_2 : Int) : List (List T) := bif g167_0 x0_0 x0_1 x0_2 (2 : Int) then x0_0 else x0_0
theorem c166_1 (x0_0 : List Row) (x0_1 : Int) (x0_2 : Int) : r166_1 x0_0 x0_1 x0_2 = x0_0 := by simp only [r166_1, Bool.cond_self, bif_tf, bif_ft, Bool.not_not]
def r166_2 (x0_0 : List Row) (x0_1 : Int) (x0_2 : Int) : Int := bif g167_0 x0_0 x0_1 x0_2 (2 : Int) then x0_1 + (1 : Int) + (1 : Int) else x0_1 + (1 : Int) + (2 : Int) + (1 : Int) + (2 : Int)
def g166_2 (x0_0 : List Row) (x0_1 : Int) (x0_2 : Int) : Int := bif g167_0 x0_0 x0_1 x0_2 (2 : Int) then (1 : Int) + (1 : Int) else (1 : Int) + (2 : Int) + (1 : Int) + (2 : Int)
theorem b166_2 (x0_0 : List Row) (x0_1 : Int) (x0_2 : Int) : bd (g166_2 x0_0 x0_1 x0_2) 6 := by
  unfold g166_2
  exact (bd_cond (u := 2) (v := 6) (w := 6) (bd_add (u := 1) (v := 1) (w := 2) ⟨by decide, by decide⟩ ⟨by decide, by decide⟩ (by decide)) (bd_add (u := 4) (v := 2) (w := 6) (bd_add (u := 3) (v := 1) (w := 4) (bd_add (u := 1) (v := 2) (w := 3) ⟨by decide, by decide⟩ ⟨by decide, by decide⟩ (by decide)) ⟨by decide, by decide⟩ (by decide)) ⟨by decide, by decide⟩ (by decide)) (by decide) (by decide))
theorem c166_2 (x0_0 : List Row) (x0_1 : Int) (x0_2 : Int) : r166_2 x0_0 x0_1 x0_2 = x0_1 + g166_2 x0_0 x0_1 x0_2 := by simp only [r166_2, g166_2, bif_p1 x0_1, bif_p2 x0_1, bif_p3 x0_1, Int.add_assoc, Bool.cond_self]
def g166_3 (x0_0 : List Row) (x0_1 : Int) (x0_2 : Int) : Int := bif g167_0 x0_0 x0_1 x0_2 (2 : Int) then g133_2 x0_0 (x0_1 + (1 : Int)) (g167_2 x0_0 x0_1 x0_2 (2 : Int)) (ri [(0 : Int), (1 : Int), (127 : Int), (128 : Int), (255 : Int), (256 : Int), (32767 : Int), (32768 : Int), (65535 : Int), (65536 : Int), (-1 : Int)]) else g141_3 x0_0 (x0_1 + (1 : Int) + (2 : Int) + (1 : Int)) (g141_3 x0_0 (x0_1 + (1 : Int) + (2 : Int)) (g141_3 x0_0 (x0_1 + (1 : Int)) (g167_2 x0_0 x0_1 x0_2 (2 : Int)) (256 : Int)) (2 : Int)) (256 : Int)
theorem k166 (x0_0 : List Row) (x0_1 : Int) (x0_2 : Int) (h : (bytesOk x0_0 && okTo (5 : Int) x0_1) = true) : (bytesOk x0_0 && (okTo (1 : Int) x0_1 && true) && true && ((bytesOk x0_0 && (okTo (2 : Int) (x0_1 + (1 : Int)) && true) && true && true || !g167_0 x0_0 x0_1 x0_2 (2 : Int)) && true) && (bytesOk x0_0 && (okTo (1 : Int) (x0_1 + (1 : Int)) && true) && (bytesOk x0_0 && (okTo (1 : Int) (x0_1 + (1 : Int) + (2 : Int)) && true) && (bytesOk x0_0 && (okTo (1 : Int) (x0_1 + (1 : Int) + (2 : Int) + (1 : Int)) && true) && true)) && true || g167_0 x0_0 x0_1 x0_2 (2 : Int))) = true := by
  obtain ⟨h0, h⟩ := Bool.and_eq_true_iff.1 h
  have h1 := h
  have p0 : (okTo (1 : Int) x0_1) = true := (okTo_le (v := 1) h1 (by decide))
  have p1 : (okTo (2 : Int) (x0_1 + (1 : Int))) = true := (okTo_add (u := 1) (v := 2) (w := 3) (okTo_le (v := 3) h1 (by decide)) ⟨by decide, by decide⟩ (by decide))
  have p2 : (okTo (1 : Int) (x0_1 + (1 : Int))) = true := (okTo_add (u := 1) (v := 1) (w := 2) (okTo_le (v := 2) h1 (by decide)) ⟨by decide, by decide⟩ (by decide))
  have p3 : (okTo (1 : Int) (x0_1 + (1 : Int) + (2 : Int))) = true := (okTo_add (u := 2) (v := 1) (w := 3) (okTo_add (u := 1) (v := 3) (w := 4) (okTo_le (v := 4) h1 (by decide)) ⟨by decide, by decide⟩ (by decide)) ⟨by decide, by decide⟩ (by decide))
  have p4 : (okTo (1 : Int) (x0_1 + (1 : Int) + (2 : Int) + (1 : Int))) = true := (okTo_add (u := 1) (v := 1) (w := 2) (okTo_add (u := 2) (v := 2) (w := 4) (okTo_add (u := 1) (v := 4) (w := 5) (okTo_le (v := 5) h1 (by decide)) ⟨by decide, by decide⟩ (by decide)) ⟨by decide, by decide⟩ (by decide)) ⟨by decide, by decide⟩ (by decide))
  simp only [h0, p0, p1, p2, p3, p4, Bool.and_true, Bool.true_and, Bool.or_true, Bool.true_or, Bool.or_false, Bool.false_or, Bool.and_self, Bool.cond_self, Bool.not_true, Bool.not_false, Bool.false_and, Bool.and_false, u64_dec]
theorem d166 (x0_0 : List Row) (x0_1 : Int) (x0_2 : Int) : fnT Q167 [] [] 0 F166 [.one (.ptr 0 0 0)] [.box [.imm true 1 x0_0, .lit (.int .i64 x0_1), .lit (.int .u64 x0_2)]] = some ((SV.one (T.lit (Value.int IntKind.i64 (g166_0 x0_0 x0_1 x0_2))), [Blk.box [T.imm true (1 : Nat) (r166_1 x0_0 x0_1 x0_2), T.lit (Value.int IntKind.i64 (r166_2 x0_0 x0_1 x0_2)), T.lit (Value.int IntKind.u64 (g166_3 x0_0 x0_1 x0_2))]]), bytesOk x0_0 && (okTo (1 : Int) x0_1 && true) && true && ((bytesOk x0_0 && (okTo (2 : Int) (x0_1 + (1 : Int)) && true) && true && true || !g167_0 x0_0 x0_1 x0_2 (2 : Int)) && true) && (bytesOk x0_0 && (okTo (1 : Int) (x0_1 + (1 : Int)) && true) && (bytesOk x0_0 && (okTo (1 : Int) (x0_1 + (1 : Int) + (2 : Int)) && true) && (bytesOk x0_0 && (okTo (1 : Int) (x0_1 + (1 : Int) + (2 : Int) + (1 : Int)) && true) && true)) && true || g167_0 x0_0 x0_1 x0_2 (2 : Int))) := by kernel_rfl
theorem e166 (x0_0 : List Row) (x0_1 : Int) (x0_2 : Int) : fnT Q167 [] [] 0 F166 [.one (.ptr 0 0 0)] [.box [.imm true 1 x0_0, .lit (.int .i64 x0_1), .lit (.int .u64 x0_2)]] = some ((SV.one (T.lit (Value.int IntKind.i64 (g166_0 x0_0 x0_1 x0_2))), [Blk.box [T.imm true (1 : Nat) x0_0, T.lit (Value.int IntKind.i64 (x0_1 + g166_2 x0_0 x0_1 x0_2)), T.lit (Value.int IntKind.u64 (g166_3 x0_0 x0_1 x0_2))]]), bytesOk x0_0 && (okTo (1 : Int) x0_1 && true) && true && ((bytesOk x0_0 && (okTo (2 : Int) (x0_1 + (1 : Int)) && true) && true && true || !g167_0 x0_0 x0_1 x0_2 (2 : Int)) && true) && (bytesOk x0_0 && (okTo (1 : Int) (x0_1 + (1 : Int)) && true) && (bytesOk x0_0 && (okTo (1 : Int) (x0_1 + (1 : Int) + (2 : Int)) && true) && (bytesOk x0_0 && (okTo (1 : Int) (x0_1 + (1 : Int) + (2 : Int) + (1 : Int)) && true) && true)) && true || g167_0 x0_0 x0_1 x0_2 (2 : Int))) := by rw [d166, c166_1, c166_2]
def q166 : List SV → List Blk → Option ((SV × List Blk) × Bool)
  | [.one (.ptr 0 0 0)], [.box [.imm true 1 x0_0, .lit (.int .i64 x0_1), .lit (.int .u64 x0_2)]] => some ((SV.one (T.lit (Value.int IntKind.i64 (g166_0 x0_0 x0_1 x0_2))), [Blk.box [T.imm true (1 : Nat) x0_0, T.lit (Value.int IntKind.i64 (x0_1 + g166_2 x0_0 x0_1 x0_2)), T.lit (Value.int IntKind.u64 (g166_3 x0_0 x0_1 x0_2))]]), bytesOk x0_0 && okTo (5 : Int) x0_1)
  | _, _ => none
theorem t166 (args : List SV) (hp : List Blk) (r : SV × List Blk) (h : q166 args hp = some (r, true)) : R 166 args hp = some r := by
  unfold q166 at h
  split at h
  · rename_i x0_0 x0_1 x0_2; exact R_fn at166 0 (fnT_run Q167_ok (okTrans (e166 x0_0 x0_1 x0_2) (k166 x0_0 x0_1 x0_2) h))
  · simp at h
noncomputable def Q166 : Qt := qcons 166 q166 Q167
theorem Q166_ok : QOk R Q166 := qcons_ok t166 Q167_ok
/-! (*spec.l1Cur).fit -/
def g149_0 (x0_0 : List Row) (x0_1 : Int) (x0_2 : Int) (x1 : Int) : Int := bif bif x1 == (1 : Int) then !g167_0 x0_0 (x0_1 + g166_2 x0_0 x0_1 x0_2) (g166_3 x0_0 x0_1 x0_2) (20 : Int) else false then IntKind.wrap IntKind.i64 ↑(BitVec.toNat (BitVec.ofInt (64 : Nat) (g166_0 x0_0 x0_1 x0_2) &&& BitVec.ofInt (64 : Nat) (255 : Int))) else g166_0 x0_0 x0_1 x0_2
def r149_1 (x0_0 : List Row) (x1 : Int) : List (List T) := bif x1 == (1 : Int) then x0_0 else x0_0
theorem c149_1 (x0_0 : List Row) (x1 : Int) : r149_1 x0_0 x1 = x0_0 := by simp only [r149_1, Bool.cond_self, bif_tf, bif_ft, Bool.not_not]
def r149_2 (x0_0 : List Row) (x0_1 : Int) (x0_2 : Int) (x1 : Int) : Int := bif x1 == (1 : Int) then x0_1 + g166_2 x0_0 x0_1 x0_2 + (1 : Int) else x0_1 + g166_2 x0_0 x0_1 x0_2
def g149_2 (x0_0 : List Row) (x0_1 : Int) (x0_2 : Int) (x1 : Int) : Int := bif x1 == (1 : Int) then g166_2 x0_0 x0_1 x0_2 + (1 : Int) else g166_2 x0_0 x0_1 x0_2
theorem b149_2 (x0_0 : List Row) (x0_1 : Int) (x0_2 : Int) (x1 : Int) : bd (g149_2 x0_0 x0_1 x0_2 x1) 7 := by
  unfold g149_2
  exact (bd_cond (u := 7) (v := 6) (w := 7) (bd_add (u := 6) (v := 1) (w := 7) (b166_2 _ _ _) ⟨by decide, by decide⟩ (by decide)) (b166_2 _ _ _) (by decide) (by decide))
theorem c149_2 (x0_0 : List Row) (x0_1 : Int) (x0_2 : Int) (x1 : Int) : r149_2 x0_0 x0_1 x0_2 x1 = x0_1 + g149_2 x0_0 x0_1 x0_2 x1 := by simp only [r149_2, g149_2, bif_p1 x0_1, bif_p2 x0_1, bif_p3 x0_1, Int.add_assoc, Bool.cond_self]
def g149_3 (x0_0 : List Row) (x0_1 : Int) (x0_2 : Int) (x1 : Int) : Int := bif x1 == (1 : Int) then g167_2 x0_0 (x0_1 + g166_2 x0_0 x0_1 x0_2) (g166_3 x0_0 x0_1 x0_2) (20 : Int) else g166_3 x0_0 x0_1 x0_2
theorem k149 (x0_0 : List Row) (x0_1 : Int) (x0_2 : Int) (x1 : Int) (h : (bytesOk x0_0 && okTo (7 : Int) x0_1) = true) : (bytesOk x0_0 && okTo (5 : Int) x0_1 && true && ((bytesOk x0_0 && (okTo (1 : Int) (x0_1 + g166_2 x0_0 x0_1 x0_2) && true) && true || !x1 == (1 : Int)) && true && true && true)) = true := by
  obtain ⟨h0, h⟩ := Bool.and_eq_true_iff.1 h
  have h1 := h
  have p0 : (okTo (5 : Int) x0_1) = true := (okTo_le (v := 5) h1 (by decide))
  have p1 : (okTo (1 : Int) (x0_1 + g166_2 x0_0 x0_1 x0_2)) = true := (okTo_add (u := 6) (v := 1) (w := 7) (okTo_le (v := 7) h1 (by decide)) (b166_2 _ _ _) (by decide))
  simp only [h0, p0, p1, Bool.and_true, Bool.true_and, Bool.or_true, Bool.true_or, Bool.or_false, Bool.false_or, Bool.and_self, Bool.cond_self, Bool.not_true, Bool.not_false, Bool.false_and, Bool.and_false, u64_dec]
theorem d149 (x0_0 : List Row) (x0_1 : Int) (x0_2 : Int) (x1 : Int) : fnT Q166 [] [] 0 F149 [.one (.ptr 0 0 0), .one (.lit (.int .i64 x1))] [.box [.imm true 1 x0_0, .lit (.int .i64 x0_1), .lit (.int .u64 x0_2)]] = some ((SV.one (T.lit (Value.int IntKind.i64 (g149_0 x0_0 x0_1 x0_2 x1))), [Blk.box [T.imm true (1 : Nat) (r149_1 x0_0 x1), T.lit (Value.int IntKind.i64 (r149_2 x0_0 x0_1 x0_2 x1)), T.lit (Value.int IntKind.u64 (g149_3 x0_0 x0_1 x0_2 x1))]]), bytesOk x0_0 && okTo (5 : Int) x0_1 && true && ((bytesOk x0_0 && (okTo (1 : Int) (x0_1 + g166_2 x0_0 x0_1 x0_2) && true) && true || !x1 == (1 : Int)) && true && true && true)) := by kernel_rfl
theorem e149 (x0_0 : List Row) (x0_1 : Int) (x0_2 : Int) (x1 : Int) : fnT Q166 [] [] 0 F149 [.one (.ptr 0 0 0), .one (.lit (.int .i64 x1))] [.box [.imm true 1 x0_0, .lit (.int .i64 x0_1), .lit (.int .u64 x0_2)]] = some ((SV.one (T.lit (Value.int IntKind.i64 (g149_0 x0_0 x0_1 x0_2 x1))), [Blk.box [T.imm true (1 : Nat) x0_0, T.lit (Value.int IntKind.i64 (x0_1 + g149_2 x0_0 x0_1 x0_2 x1)), T.lit (Value.int IntKind.u64 (g149_3 x0_0 x0_1 x0_2 x1))]]), bytesOk x0_0 && okTo (5 : Int) x0_1 && true && ((bytesOk x0_0 && (okTo (1 : Int) (x0_1 + g166_2 x0_0 x0_1 x0_2) && true) && true || !x1 == (1 : Int)) && true && true && true)) := by rw [d149, c149_1, c149_2]
def q149 : List SV → List Blk → Option ((SV × List Blk) × Bool)
  | [.one (.ptr 0 0 0), .one (.lit (.int .i64 x1))], [.box [.imm true 1 x0_0, .lit (.int .i64 x0_1), .lit (.int .u64 x0_2)]] => some ((SV.one (T.lit (Value.int IntKind.i64 (g149_0 x0_0 x0_1 x0_2 x1))), [Blk.box [T.imm true (1 : Nat) x0_0, T.lit (Value.int IntKind.i64 (x0_1 + g149_2 x0_0 x0_1 x0_2 x1)), T.lit (Value.int IntKind.u64 (g149_3 x0_0 x0_1 x0_2 x1))]]), bytesOk x0_0 && okTo (7 : Int) x0_1)
  | _, _ => none
theorem t149 (args : List SV) (hp : List Blk) (r : SV × List Blk) (h : q149 args hp = some (r, true)) : R 149 args hp = some r := by
  unfold q149 at h
  split at h
  · rename_i x1 x0_0 x0_1 x0_2; exact R_fn at149 0 (fnT_run Q166_ok (okTrans (e149 x0_0 x0_1 x0_2 x1) (k149 x0_0 x0_1 x0_2 x1) h))
  · simp at h
noncomputable def Q149 : Qt := qcons 149 q149 Q166
theorem Q149_ok : QOk R Q149 := qcons_ok t149 Q166_ok
/-! spec.DrawAddFlags -/
def g27_0 (x0 : List Row) : Int := g148_0 x0 (0 : Int) (0 : Int)
def g27_1 (x0 : List Row) : Int := g133_0 x0 (1 : Int) (g148_2 x0 (0 : Int) (0 : Int)) (ri [(0 : Int), (0 : Int), (1 : Int), (1 : Int), (2 : Int)])
def g27_2 (x0 : List Row) : Int := g149_0 x0 (2 : Int) (g133_2 x0 (1 : Int) (g148_2 x0 (0 : Int) (0 : Int)) (ri [(0 : Int), (0 : Int), (1 : Int), (1 : Int), (2 : Int)])) (g148_0 x0 (0 : Int) (0 : Int))
def g27_3 (x0 : List Row) : Int := g149_0 x0 ((2 : Int) + g149_2 x0 (2 : Int) (g133_2 x0 (1 : Int) (g148_2 x0 (0 : Int) (0 : Int)) (ri [(0 : Int), (0 : Int), (1 : Int), (1 : Int), (2 : Int)])) (g148_0 x0 (0 : Int) (0 : Int))) (g149_3 x0 (2 : Int) (g133_2 x0 (1 : Int) (g148_2 x0 (0 : Int) (0 : Int)) (ri [(0 : Int), (0 : Int), (1 : Int), (1 : Int), (2 : Int)])) (g148_0 x0 (0 : Int) (0 : Int))) (g148_0 x0 (0 : Int) (0 : Int))
theorem k27 (x0 : List Row) (h : (bytesOk x0) = true) : (bytesOk x0 && true && true && (bytesOk x0 && true && (bytesOk x0 && true && (bytesOk x0 && okTo (7 : Int) ((2 : Int) + g149_2 x0 (2 : Int) (g133_2 x0 (1 : Int) (g148_2 x0 (0 : Int) (0 : Int)) (ri [(0 : Int), (0 : Int), (1 : Int), (1 : Int), (2 : Int)])) (g148_0 x0 (0 : Int) (0 : Int))) && true)) && true)) = true := by
  have h0 := h
  have p0 : (okTo (7 : Int) ((2 : Int) + g149_2 x0 (2 : Int) (g133_2 x0 (1 : Int) (g148_2 x0 (0 : Int) (0 : Int)) (ri [(0 : Int), (0 : Int), (1 : Int), (1 : Int), (2 : Int)])) (g148_0 x0 (0 : Int) (0 : Int)))) = true := (okTo_bd (u := 9) (bd_add (u := 2) (v := 7) (w := 9) ⟨by decide, by decide⟩ (b149_2 _ _ _ _) (by decide)) (by decide))
  simp only [h0, p0, Bool.and_true, Bool.true_and, Bool.or_true, Bool.true_or, Bool.or_false, Bool.false_or, Bool.and_self, Bool.cond_self, Bool.not_true, Bool.not_false, Bool.false_and, Bool.and_false, u64_dec]
theorem e27 (x0 : List Row) : fnT Q149 [] [] 0 F27 [.one (.imm true 1 x0)] [] = some ((SV.tup [SV.one (T.lit (Value.int IntKind.i64 (g27_0 x0))), SV.one (T.lit (Value.int IntKind.i64 (g27_1 x0))), SV.one (T.lit (Value.int IntKind.i64 (g27_2 x0))), SV.one (T.lit (Value.int IntKind.i64 (g27_3 x0)))], []), bytesOk x0 && true && true && (bytesOk x0 && true && (bytesOk x0 && true && (bytesOk x0 && okTo (7 : Int) ((2 : Int) + g149_2 x0 (2 : Int) (g133_2 x0 (1 : Int) (g148_2 x0 (0 : Int) (0 : Int)) (ri [(0 : Int), (0 : Int), (1 : Int), (1 : Int), (2 : Int)])) (g148_0 x0 (0 : Int) (0 : Int))) && true)) && true)) := by kernel_rfl
def q27 : List SV → List Blk → Option ((SV × List Blk) × Bool)
  | [.one (.imm true 1 x0)], [] => some ((SV.tup [SV.one (T.lit (Value.int IntKind.i64 (g27_0 x0))), SV.one (T.lit (Value.int IntKind.i64 (g27_1 x0))), SV.one (T.lit (Value.int IntKind.i64 (g27_2 x0))), SV.one (T.lit (Value.int IntKind.i64 (g27_3 x0)))], []), bytesOk x0)
  | _, _ => none
theorem t27 (args : List SV) (hp : List Blk) (r : SV × List Blk) (h : q27 args hp = some (r, true)) : R 27 args hp = some r := by
  unfold q27 at h
  split at h
  · rename_i x0; exact R_fn at27 0 (fnT_run Q149_ok (okTrans (e27 x0) (k27 x0) h))
  · simp at h
noncomputable def Q27 : Qt := qcons 27 q27 Q149
theorem Q27_ok : QOk R Q27 := qcons_ok t27 Q149_ok
/-! impl.within -/
def g142_0 (x0 : Int) (x1 : Int) (x2 : Int) : Bool := bif decide (x0 ≥ x1) then decide (x0 ≤ x2) else false
theorem e142 (x0 : Int) (x1 : Int) (x2 : Int) : fnT Q27 [] [] 0 F142 [.one (.lit (.int .i64 x0)), .one (.lit (.int .i64 x1)), .one (.lit (.int .i64 x2))] [] = some ((SV.one (T.lit (Value.bool (g142_0 x0 x1 x2))), []), true) := by kernel_rfl
def q142 : List SV → List Blk → Option ((SV × List Blk) × Bool)
  | [.one (.lit (.int .i64 x0)), .one (.lit (.int .i64 x1)), .one (.lit (.int .i64 x2))], [] => some ((SV.one (T.lit (Value.bool (g142_0 x0 x1 x2))), []), true)
  | _, _ => none
theorem t142 (args : List SV) (hp : List Blk) (r : SV × List Blk) (h : q142 args hp = some (r, true)) : R 142 args hp = some r := by
  unfold q142 at h
  split at h
  · rename_i x0 x1 x2; exact R_fn at142 0 (fnT_run Q27_ok ((e142 x0 x1 x2).trans h))
  · simp at h
noncomputable def Q142 : Qt := qcons 142 q142 Q27
theorem Q142_ok : QOk R Q142 := qcons_ok t142 Q27_ok
/-! impl.isBit -/
def g150_0 (x0 : Int) : Bool := g142_0 x0 (0 : Int) (1 : Int)
theorem e150 (x0 : Int) : fnT Q142 [] [] 0 F150 [.one (.lit (.int .i64 x0))] [] = some ((SV.one (T.lit (Value.bool (g150_0 x0))), []), true) := by kernel_rfl
def q150 : List SV → List Blk → Option ((SV × List Blk) × Bool)
  | [.one (.lit (.int .i64 x0))], [] => some ((SV.one (T.lit (Value.bool (g150_0 x0))), []), true)
  | _, _ => none
theorem t150 (args : List SV) (hp : List Blk) (r : SV × List Blk) (h : q150 args hp = some (r, true)) : R 150 args hp = some r := by
  unfold q150 at h
  split at h
  · rename_i x0; exact R_fn at150 0 (fnT_run Q142_ok ((e150 x0).trans h))
  · simp at h
noncomputable def Q150 : Qt := qcons 150 q150 Q142
theorem Q150_ok : QOk R Q150 := qcons_ok t150 Q142_ok
/-! impl.isSize -/
def g198_0 (x0 : Int) : Bool := bif x0 == (1 : Int) then true else x0 == (2 : Int)
theorem e198 (x0 : Int) : fnT Q150 [] [] 0 F198 [.one (.lit (.int .i64 x0))] [] = some ((SV.one (T.lit (Value.bool (g198_0 x0))), []), true) := by kernel_rfl
def q198 : List SV → List Blk → Option ((SV × List Blk) × Bool)
  | [.one (.lit (.int .i64 x0))], [] => some ((SV.one (T.lit (Value.bool (g198_0 x0))), []), true)
  | _, _ => none
theorem t198 (args : List SV) (hp : List Blk) (r : SV × List Blk) (h : q198 args hp = some (r, true)) : R 198 args hp = some r := by
  unfold q198 at h
  split at h
  · rename_i x0; exact R_fn at198 0 (fnT_run Q150_ok ((e198 x0).trans h))
  · simp at h
noncomputable def Q198 : Qt := qcons 198 q198 Q150
theorem Q198_ok : QOk R Q198 := qcons_ok t198 Q150_ok
theorem size_iff {s : Int} : g198_0 s = true ↔ s = 1 ∨ s = 2 := by
  unfold g198_0
  cases h : s == 1 <;> simp_all
theorem size_pos {s : Int} (h : g198_0 s = true) : 0 ≤ IntKind.wrap IntKind.i64 (8 * s) := by
  rcases size_iff.1 h with rfl | rfl <;> decide
/-! impl.limitOf -/
def g218_0 (x0 : Int) : Int := IntKind.wrap IntKind.i64 ((1 : Int) * (2 : Int) ^ min (Int.toNat (IntKind.wrap IntKind.i64 ((8 : Int) * x0))) (64 : Nat))
theorem k218 (x0 : Int) (h : (decide ((0 : Int) ≤ IntKind.wrap IntKind.i64 ((8 : Int) * x0))) = true) : (decide ((0 : Int) ≤ IntKind.wrap IntKind.i64 ((8 : Int) * x0)) && true && true) = true := by
  have h0 := h
  simp only [h0, Bool.and_true, Bool.true_and, Bool.or_true, Bool.true_or, Bool.or_false, Bool.false_or, Bool.and_self, Bool.cond_self, Bool.not_true, Bool.not_false, Bool.false_and, Bool.and_false, u64_dec]
theorem e218 (x0 : Int) : fnT Q198 [] [] 0 F218 [.one (.lit (.int .i64 x0))] [] = some ((SV.one (T.lit (Value.int IntKind.i64 (g218_0 x0))), []), decide ((0 : Int) ≤ IntKind.wrap IntKind.i64 ((8 : Int) * x0)) && true && true) := by kernel_rfl
def q218 : List SV → List Blk → Option ((SV × List Blk) × Bool)
  | [.one (.lit (.int .i64 x0))], [] => some ((SV.one (T.lit (Value.int IntKind.i64 (g218_0 x0))), []), decide ((0 : Int) ≤ IntKind.wrap IntKind.i64 ((8 : Int) * x0)))
  | _, _ => none
theorem t218 (args : List SV) (hp : List Blk) (r : SV × List Blk) (h : q218 args hp = some (r, true)) : R 218 args hp = some r := by
  unfold q218 at h
  split at h
  · rename_i x0; exact R_fn at218 0 (fnT_run Q198_ok (okTrans (e218 x0) (k218 x0) h))
  · simp at h
noncomputable def Q218 : Qt := qcons 218 q218 Q198
theorem Q218_ok : QOk R Q218 := qcons_ok t218 Q198_ok
/-! impl.isValue -/
def g151_0 (x0 : Int) (x1 : Int) : Bool := bif g198_0 x0 then g142_0 x1 (0 : Int) (IntKind.wrap IntKind.i64 (g218_0 x0 - (1 : Int))) else false
theorem k151 (x0 : Int) (x1 : Int) (h : (true) = true) : ((decide ((0 : Int) ≤ IntKind.wrap IntKind.i64 ((8 : Int) * x0)) && true || !g198_0 x0) && true && true) = true := by
  cases hs : g198_0 x0
  · simp
  · simp [size_pos hs]
theorem e151 (x0 : Int) (x1 : Int) : fnT Q218 [] [] 0 F151 [.one (.lit (.int .i64 x0)), .one (.lit (.int .i64 x1))] [] = some ((SV.one (T.lit (Value.bool (g151_0 x0 x1))), []), (decide ((0 : Int) ≤ IntKind.wrap IntKind.i64 ((8 : Int) * x0)) && true || !g198_0 x0) && true && true) := by kernel_rfl
def q151 : List SV → List Blk → Option ((SV × List Blk) × Bool)
  | [.one (.lit (.int .i64 x0)), .one (.lit (.int .i64 x1))], [] => some ((SV.one (T.lit (Value.bool (g151_0 x0 x1))), []), true)
  | _, _ => none
theorem t151 (args : List SV) (hp : List Blk) (r : SV × List Blk) (h : q151 args hp = some (r, true)) : R 151 args hp = some r := by
  unfold q151 at h
  split at h
  · rename_i x0 x1; exact R_fn at151 0 (fnT_run Q218_ok (okTrans (e151 x0 x1) (k151 x0 x1) h))
  · simp at h
noncomputable def Q151 : Qt := qcons 151 q151 Q218
theorem Q151_ok : QOk R Q151 := qcons_ok t151 Q218_ok
/-! impl.signedOf -/
def g157_0 (x0 : Int) (x1 : Int) : Int := bif decide (x1 ≥ IntKind.wrap IntKind.i64 (Int.tdiv (g218_0 x0) (2 : Int))) then IntKind.wrap IntKind.i64 (x1 - g218_0 x0) else x1
theorem k157 (x0 : Int) (x1 : Int) (h : (decide ((0 : Int) ≤ IntKind.wrap IntKind.i64 ((8 : Int) * x0))) = true) : (decide ((0 : Int) ≤ IntKind.wrap IntKind.i64 ((8 : Int) * x0)) && true && ((decide ((0 : Int) ≤ IntKind.wrap IntKind.i64 ((8 : Int) * x0)) && true && true || !decide (x1 ≥ IntKind.wrap IntKind.i64 (Int.tdiv (g218_0 x0) (2 : Int)))) && true) && true) = true := by
  have h0 := h
  simp only [h0, Bool.and_true, Bool.true_and, Bool.or_true, Bool.true_or, Bool.or_false, Bool.false_or, Bool.and_self, Bool.cond_self, Bool.not_true, Bool.not_false, Bool.false_and, Bool.and_false, u64_dec]
theorem e157 (x0 : Int) (x1 : Int) : fnT Q151 [] [] 0 F157 [.one (.lit (.int .i64 x0)), .one (.lit (.int .i64 x1))] [] = some ((SV.one (T.lit (Value.int IntKind.i64 (g157_0 x0 x1))), []), decide ((0 : Int) ≤ IntKind.wrap IntKind.i64 ((8 : Int) * x0)) && true && ((decide ((0 : Int) ≤ IntKind.wrap IntKind.i64 ((8 : Int) * x0)) && true && true || !decide (x1 ≥ IntKind.wrap IntKind.i64 (Int.tdiv (g218_0 x0) (2 : Int)))) && true) && true) := by kernel_rfl
def q157 : List SV → List Blk → Option ((SV × List Blk) × Bool)
  | [.one (.lit (.int .i64 x0)), .one (.lit (.int .i64 x1))], [] => some ((SV.one (T.lit (Value.int IntKind.i64 (g157_0 x0 x1))), []), decide ((0 : Int) ≤ IntKind.wrap IntKind.i64 ((8 : Int) * x0)))
  | _, _ => none
theorem t157 (args : List SV) (hp : List Blk) (r : SV × List Blk) (h : q157 args hp = some (r, true)) : R 157 args hp = some r := by
  unfold q157 at h
  split at h
  · rename_i x0 x1; exact R_fn at157 0 (fnT_run Q151_ok (okTrans (e157 x0 x1) (k157 x0 x1) h))
  · simp at h
noncomputable def Q157 : Qt := qcons 157 q157 Q151
theorem Q157_ok : QOk R Q157 := qcons_ok t157 Q151_ok
/-! impl.flag -/
def g224_0 (x0 : Bool) (x1 : Int) : Int := bif x0 then x1 else (0 : Int)
theorem e224 (x0 : Bool) (x1 : Int) : fnT Q157 [] [] 0 F224 [.one (.lit (.bool x0)), .one (.lit (.int .i64 x1))] [] = some ((SV.one (T.lit (Value.int IntKind.i64 (g224_0 x0 x1))), []), true) := by kernel_rfl
def q224 : List SV → List Blk → Option ((SV × List Blk) × Bool)
  | [.one (.lit (.bool x0)), .one (.lit (.int .i64 x1))], [] => some ((SV.one (T.lit (Value.int IntKind.i64 (g224_0 x0 x1))), []), true)
  | _, _ => none
theorem t224 (args : List SV) (hp : List Blk) (r : SV × List Blk) (h : q224 args hp = some (r, true)) : R 224 args hp = some r := by
  unfold q224 at h
  split at h
  · rename_i x0 x1; exact R_fn at224 0 (fnT_run Q157_ok ((e224 x0 x1).trans h))
  · simp at h
noncomputable def Q224 : Qt := qcons 224 q224 Q157
theorem Q224_ok : QOk R Q224 := qcons_ok t224 Q157_ok
/-! impl.signs -/
def g225_0 (x0 : Int) (x1 : Int) : Int := IntKind.wrap IntKind.i64 ↑(BitVec.toNat (BitVec.ofInt (64 : Nat) (g224_0 (x1 == (0 : Int)) (4 : Int)) ||| BitVec.ofInt (64 : Nat) (g224_0 (decide (x1 ≥ IntKind.wrap IntKind.i64 (Int.tdiv (g218_0 x0) (2 : Int)))) (8 : Int))))
theorem k225 (x0 : Int) (x1 : Int) (h : (decide ((0 : Int) ≤ IntKind.wrap IntKind.i64 ((8 : Int) * x0))) = true) : (decide ((0 : Int) ≤ IntKind.wrap IntKind.i64 ((8 : Int) * x0)) && true && true) = true := by
  have h0 := h
  simp only [h0, Bool.and_true, Bool.true_and, Bool.or_true, Bool.true_or, Bool.or_false, Bool.false_or, Bool.and_self, Bool.cond_self, Bool.not_true, Bool.not_false, Bool.false_and, Bool.and_false, u64_dec]
theorem e225 (x0 : Int) (x1 : Int) : fnT Q224 [] [] 0 F225 [.one (.lit (.int .i64 x0)), .one (.lit (.int .i64 x1))] [] = some ((SV.one (T.lit (Value.int IntKind.i64 (g225_0 x0 x1))), []), decide ((0 : Int) ≤ IntKind.wrap IntKind.i64 ((8 : Int) * x0)) && true && true) := by kernel_rfl
def q225 : List SV → List Blk → Option ((SV × List Blk) × Bool)
  | [.one (.lit (.int .i64 x0)), .one (.lit (.int .i64 x1))], [] => some ((SV.one (T.lit (Value.int IntKind.i64 (g225_0 x0 x1))), []), decide ((0 : Int) ≤ IntKind.wrap IntKind.i64 ((8 : Int) * x0)))
  | _, _ => none
theorem t225 (args : List SV) (hp : List Blk) (r : SV × List Blk) (h : q225 args hp = some (r, true)) : R 225 args hp = some r := by
  unfold q225 at h
  split at h
  · rename_i x0 x1; exact R_fn at225 0 (fnT_run Q224_ok (okTrans (e225 x0 x1) (k225 x0 x1) h))
  · simp at h
noncomputable def Q225 : Qt := qcons 225 q225 Q224
theorem Q225_ok : QOk R Q225 := qcons_ok t225 Q224_ok
/-! impl.reckoned -/
def g219_0 (x0 : Int) (x1 : Int) : Int := IntKind.wrap IntKind.i64 ↑(BitVec.toNat (BitVec.ofInt (64 : Nat) x1 &&& BitVec.ofInt (64 : Nat) (IntKind.wrap IntKind.i64 (g218_0 x0 - (1 : Int)))))
def g219_1 (x0 : Int) (x1 : Int) (x2 : Int) : Int := IntKind.wrap IntKind.i64 ↑(BitVec.toNat (BitVec.ofInt (64 : Nat) (IntKind.wrap IntKind.i64 ↑(BitVec.toNat (BitVec.ofInt (64 : Nat) (g224_0 (x1 != IntKind.wrap IntKind.i64 ↑(BitVec.toNat (BitVec.ofInt (64 : Nat) x1 &&& BitVec.ofInt (64 : Nat) (IntKind.wrap IntKind.i64 (g218_0 x0 - (1 : Int)))))) (17 : Int)) ||| BitVec.ofInt (64 : Nat) (g224_0 (x2 != g157_0 x0 (IntKind.wrap IntKind.i64 ↑(BitVec.toNat (BitVec.ofInt (64 : Nat) x1 &&& BitVec.ofInt (64 : Nat) (IntKind.wrap IntKind.i64 (g218_0 x0 - (1 : Int))))))) (2 : Int))))) ||| BitVec.ofInt (64 : Nat) (g225_0 x0 (IntKind.wrap IntKind.i64 ↑(BitVec.toNat (BitVec.ofInt (64 : Nat) x1 &&& BitVec.ofInt (64 : Nat) (IntKind.wrap IntKind.i64 (g218_0 x0 - (1 : Int)))))))))
theorem k219 (x0 : Int) (x1 : Int) (x2 : Int) (h : (decide ((0 : Int) ≤ IntKind.wrap IntKind.i64 ((8 : Int) * x0))) = true) : (decide ((0 : Int) ≤ IntKind.wrap IntKind.i64 ((8 : Int) * x0)) && true && (decide ((0 : Int) ≤ IntKind.wrap IntKind.i64 ((8 : Int) * x0)) && true && (decide ((0 : Int) ≤ IntKind.wrap IntKind.i64 ((8 : Int) * x0)) && true && true))) = true := by
  have h0 := h
  simp only [h0, Bool.and_true, Bool.true_and, Bool.or_true, Bool.true_or, Bool.or_false, Bool.false_or, Bool.and_self, Bool.cond_self, Bool.not_true, Bool.not_false, Bool.false_and, Bool.and_false, u64_dec]
theorem e219 (x0 : Int) (x1 : Int) (x2 : Int) : fnT Q225 [] [] 0 F219 [.one (.lit (.int .i64 x0)), .one (.lit (.int .i64 x1)), .one (.lit (.int .i64 x2))] [] = some ((SV.tup [SV.one (T.lit (Value.int IntKind.i64 (g219_0 x0 x1))), SV.one (T.lit (Value.int IntKind.i64 (g219_1 x0 x1 x2)))], []), decide ((0 : Int) ≤ IntKind.wrap IntKind.i64 ((8 : Int) * x0)) && true && (decide ((0 : Int) ≤ IntKind.wrap IntKind.i64 ((8 : Int) * x0)) && true && (decide ((0 : Int) ≤ IntKind.wrap IntKind.i64 ((8 : Int) * x0)) && true && true))) := by kernel_rfl
def q219 : List SV → List Blk → Option ((SV × List Blk) × Bool)
  | [.one (.lit (.int .i64 x0)), .one (.lit (.int .i64 x1)), .one (.lit (.int .i64 x2))], [] => some ((SV.tup [SV.one (T.lit (Value.int IntKind.i64 (g219_0 x0 x1))), SV.one (T.lit (Value.int IntKind.i64 (g219_1 x0 x1 x2)))], []), decide ((0 : Int) ≤ IntKind.wrap IntKind.i64 ((8 : Int) * x0)))
  | _, _ => none
theorem t219 (args : List SV) (hp : List Blk) (r : SV × List Blk) (h : q219 args hp = some (r, true)) : R 219 args hp = some r := by
  unfold q219 at h
  split at h
  · rename_i x0 x1 x2; exact R_fn at219 0 (fnT_run Q225_ok (okTrans (e219 x0 x1 x2) (k219 x0 x1 x2) h))
  · simp at h
noncomputable def Q219 : Qt := qcons 219 q219 Q225
theorem Q219_ok : QOk R Q219 := qcons_ok t219 Q225_ok
/-! impl.addFlags -/
def g152_0 (x0 : Int) (x1 : Int) (x2 : Int) (x3 : Int) : Int := g219_0 x0 (IntKind.wrap IntKind.i64 (IntKind.wrap IntKind.i64 (x2 + x3) + x1))
def g152_1 (x0 : Int) (x1 : Int) (x2 : Int) (x3 : Int) : Int := g219_1 x0 (IntKind.wrap IntKind.i64 (IntKind.wrap IntKind.i64 (x2 + x3) + x1)) (IntKind.wrap IntKind.i64 (IntKind.wrap IntKind.i64 (g157_0 x0 x2 + g157_0 x0 x3) + x1))
theorem k152 (x0 : Int) (x1 : Int) (x2 : Int) (x3 : Int) (h : (decide ((0 : Int) ≤ IntKind.wrap IntKind.i64 ((8 : Int) * x0))) = true) : (decide ((0 : Int) ≤ IntKind.wrap IntKind.i64 ((8 : Int) * x0)) && (decide ((0 : Int) ≤ IntKind.wrap IntKind.i64 ((8 : Int) * x0)) && (decide ((0 : Int) ≤ IntKind.wrap IntKind.i64 ((8 : Int) * x0)) && true)) && true) = true := by
  have h0 := h
  simp only [h0, Bool.and_true, Bool.true_and, Bool.or_true, Bool.true_or, Bool.or_false, Bool.false_or, Bool.and_self, Bool.cond_self, Bool.not_true, Bool.not_false, Bool.false_and, Bool.and_false, u64_dec]
theorem e152 (x0 : Int) (x1 : Int) (x2 : Int) (x3 : Int) : fnT Q219 [] [] 0 F152 [.one (.lit (.int .i64 x0)), .one (.lit (.int .i64 x1)), .one (.lit (.int .i64 x2)), .one (.lit (.int .i64 x3))] [] = some ((SV.tup [SV.one (T.lit (Value.int IntKind.i64 (g152_0 x0 x1 x2 x3))), SV.one (T.lit (Value.int IntKind.i64 (g152_1 x0 x1 x2 x3)))], []), decide ((0 : Int) ≤ IntKind.wrap IntKind.i64 ((8 : Int) * x0)) && (decide ((0 : Int) ≤ IntKind.wrap IntKind.i64 ((8 : Int) * x0)) && (decide ((0 : Int) ≤ IntKind.wrap IntKind.i64 ((8 : Int) * x0)) && true)) && true) := by kernel_rfl
def q152 : List SV → List Blk → Option ((SV × List Blk) × Bool)
  | [.one (.lit (.int .i64 x0)), .one (.lit (.int .i64 x1)), .one (.lit (.int .i64 x2)), .one (.lit (.int .i64 x3))], [] => some ((SV.tup [SV.one (T.lit (Value.int IntKind.i64 (g152_0 x0 x1 x2 x3))), SV.one (T.lit (Value.int IntKind.i64 (g152_1 x0 x1 x2 x3)))], []), decide ((0 : Int) ≤ IntKind.wrap IntKind.i64 ((8 : Int) * x0)))
  | _, _ => none
theorem t152 (args : List SV) (hp : List Blk) (r : SV × List Blk) (h : q152 args hp = some (r, true)) : R 152 args hp = some r := by
  unfold q152 at h
  split at h
  · rename_i x0 x1 x2 x3; exact R_fn at152 0 (fnT_run Q219_ok (okTrans (e152 x0 x1 x2 x3) (k152 x0 x1 x2 x3) h))
  · simp at h
noncomputable def Q152 : Qt := qcons 152 q152 Q219
theorem Q152_ok : QOk R Q152 := qcons_ok t152 Q219_ok
/-! impl.AddFlags -/
def g28_0 (x0 : Int) (x1 : Int) (x2 : Int) (x3 : Int) : Int := bif bif bif !g150_0 x1 then true else !g151_0 x0 x2 then true else !g151_0 x0 x3 then (0 : Int) else g152_0 x0 x1 x2 x3
def g28_1 (x0 : Int) (x1 : Int) (x2 : Int) (x3 : Int) : Int := bif bif bif !g150_0 x1 then true else !g151_0 x0 x2 then true else !g151_0 x0 x3 then (0 : Int) else g152_1 x0 x1 x2 x3
def r28_2 (x0 : Int) (x1 : Int) (x2 : Int) (x3 : Int) : Bool := bif bif bif !g150_0 x1 then true else !g151_0 x0 x2 then true else !g151_0 x0 x3 then false else true
def g28_2 (x0 : Int) (x1 : Int) (x2 : Int) (x3 : Int) : Bool := !bif bif !g150_0 x1 then true else !g151_0 x0 x2 then true else !g151_0 x0 x3
theorem c28_2 (x0 : Int) (x1 : Int) (x2 : Int) (x3 : Int) : r28_2 x0 x1 x2 x3 = g28_2 x0 x1 x2 x3 := by simp only [r28_2, g28_2, Bool.cond_self, bif_tf, bif_ft, Bool.not_not]
theorem k28 (x0 : Int) (x1 : Int) (x2 : Int) (x3 : Int) (h : (true) = true) : (decide ((0 : Int) ≤ IntKind.wrap IntKind.i64 ((8 : Int) * x0)) && true && true || bif bif !g150_0 x1 then true else !g151_0 x0 x2 then true else !g151_0 x0 x3) = true := by
  cases hs : g198_0 x0
  · simp [g151_0, hs]
  · simp [size_pos hs]
theorem d28 (x0 : Int) (x1 : Int) (x2 : Int) (x3 : Int) : fnT Q152 [] [] 0 F28 [.one (.lit (.int .i64 x0)), .one (.lit (.int .i64 x1)), .one (.lit (.int .i64 x2)), .one (.lit (.int .i64 x3))] [] = some ((SV.tup [SV.one (T.lit (Value.int IntKind.i64 (g28_0 x0 x1 x2 x3))), SV.one (T.lit (Value.int IntKind.i64 (g28_1 x0 x1 x2 x3))), SV.one (T.lit (Value.bool (r28_2 x0 x1 x2 x3)))], []), decide ((0 : Int) ≤ IntKind.wrap IntKind.i64 ((8 : Int) * x0)) && true && true || bif bif !g150_0 x1 then true else !g151_0 x0 x2 then true else !g151_0 x0 x3) := by kernel_rfl
theorem e28 (x0 : Int) (x1 : Int) (x2 : Int) (x3 : Int) : fnT Q152 [] [] 0 F28 [.one (.lit (.int .i64 x0)), .one (.lit (.int .i64 x1)), .one (.lit (.int .i64 x2)), .one (.lit (.int .i64 x3))] [] = some ((SV.tup [SV.one (T.lit (Value.int IntKind.i64 (g28_0 x0 x1 x2 x3))), SV.one (T.lit (Value.int IntKind.i64 (g28_1 x0 x1 x2 x3))), SV.one (T.lit (Value.bool (g28_2 x0 x1 x2 x3)))], []), decide ((0 : Int) ≤ IntKind.wrap IntKind.i64 ((8 : Int) * x0)) && true && true || bif bif !g150_0 x1 then true else !g151_0 x0 x2 then true else !g151_0 x0 x3) := by rw [d28, c28_2]
def q28 : List SV → List Blk → Option ((SV × List Blk) × Bool)
  | [.one (.lit (.int .i64 x0)), .one (.lit (.int .i64 x1)), .one (.lit (.int .i64 x2)), .one (.lit (.int .i64 x3))], [] => some ((SV.tup [SV.one (T.lit (Value.int IntKind.i64 (g28_0 x0 x1 x2 x3))), SV.one (T.lit (Value.int IntKind.i64 (g28_1 x0 x1 x2 x3))), SV.one (T.lit (Value.bool (g28_2 x0 x1 x2 x3)))], []), true)
  | _, _ => none
theorem t28 (args : List SV) (hp : List Blk) (r : SV × List Blk) (h : q28 args hp = some (r, true)) : R 28 args hp = some r := by
  unfold q28 at h
  split at h
  · rename_i x0 x1 x2 x3; exact R_fn at28 0 (fnT_run Q152_ok (okTrans (e28 x0 x1 x2 x3) (k28 x0 x1 x2 x3) h))
  · simp at h
noncomputable def Q28 : Qt := qcons 28 q28 Q152
theorem Q28_ok : QOk R Q28 := qcons_ok t28 Q152_ok
/-! spec.l1In -/
def g144_0 (x0 : Int) (x1 : Int) (x2 : Int) : Bool := bif decide (x0 ≥ x1) then decide (x0 ≤ x2) else false
theorem e144 (x0 : Int) (x1 : Int) (x2 : Int) : fnT Q28 [] [] 0 F144 [.one (.lit (.int .i64 x0)), .one (.lit (.int .i64 x1)), .one (.lit (.int .i64 x2))] [] = some ((SV.one (T.lit (Value.bool (g144_0 x0 x1 x2))), []), true) := by kernel_rfl
def q144 : List SV → List Blk → Option ((SV × List Blk) × Bool)
  | [.one (.lit (.int .i64 x0)), .one (.lit (.int .i64 x1)), .one (.lit (.int .i64 x2))], [] => some ((SV.one (T.lit (Value.bool (g144_0 x0 x1 x2))), []), true)
  | _, _ => none
theorem t144 (args : List SV) (hp : List Blk) (r : SV × List Blk) (h : q144 args hp = some (r, true)) : R 144 args hp = some r := by
  unfold q144 at h
  split at h
  · rename_i x0 x1 x2; exact R_fn at144 0 (fnT_run Q28_ok ((e144 x0 x1 x2).trans h))
  · simp at h
noncomputable def Q144 : Qt := qcons 144 q144 Q28
theorem Q144_ok : QOk R Q144 := qcons_ok t144 Q28_ok
/-! spec.l1Size -/
def g201_0 (x0 : Int) : Bool := bif x0 == (1 : Int) then true else x0 == (2 : Int)
theorem e201 (x0 : Int) : fnT Q144 [] [] 0 F201 [.one (.lit (.int .i64 x0))] [] = some ((SV.one (T.lit (Value.bool (g201_0 x0))), []), true) := by kernel_rfl
def q201 : List SV → List Blk → Option ((SV × List Blk) × Bool)
  | [.one (.lit (.int .i64 x0))], [] => some ((SV.one (T.lit (Value.bool (g201_0 x0))), []), true)
  | _, _ => none
theorem t201 (args : List SV) (hp : List Blk) (r : SV × List Blk) (h : q201 args hp = some (r, true)) : R 201 args hp = some r := by
  unfold q201 at h
  split at h
  · rename_i x0; exact R_fn at201 0 (fnT_run Q144_ok ((e201 x0).trans h))
  · simp at h
noncomputable def Q201 : Qt := qcons 201 q201 Q144
theorem Q201_ok : QOk R Q201 := qcons_ok t201 Q144_ok
/-! spec.l1Top -/
def g220_0 (x0 : Int) : Int := IntKind.wrap IntKind.i64 ((1 : Int) * (2 : Int) ^ min (Int.toNat (IntKind.wrap IntKind.u64 (IntKind.wrap IntKind.i64 ((8 : Int) * x0)))) (64 : Nat))
theorem k220 (x0 : Int) (h : (true) = true) : (decide ((0 : Int) ≤ IntKind.wrap IntKind.u64 (IntKind.wrap IntKind.i64 ((8 : Int) * x0))) && true && true) = true := by
  simp only [Bool.and_true, Bool.true_and, Bool.or_true, Bool.true_or, Bool.or_false, Bool.false_or, Bool.and_self, Bool.cond_self, Bool.not_true, Bool.not_false, Bool.false_and, Bool.and_false, u64_dec]
theorem e220 (x0 : Int) : fnT Q201 [] [] 0 F220 [.one (.lit (.int .i64 x0))] [] = some ((SV.one (T.lit (Value.int IntKind.i64 (g220_0 x0))), []), decide ((0 : Int) ≤ IntKind.wrap IntKind.u64 (IntKind.wrap IntKind.i64 ((8 : Int) * x0))) && true && true) := by kernel_rfl
def q220 : List SV → List Blk → Option ((SV × List Blk) × Bool)
  | [.one (.lit (.int .i64 x0))], [] => some ((SV.one (T.lit (Value.int IntKind.i64 (g220_0 x0))), []), true)
  | _, _ => none
theorem t220 (args : List SV) (hp : List Blk) (r : SV × List Blk) (h : q220 args hp = some (r, true)) : R 220 args hp = some r := by
  unfold q220 at h
  split at h
  · rename_i x0; exact R_fn at220 0 (fnT_run Q201_ok (okTrans (e220 x0) (k220 x0) h))
  · simp at h
noncomputable def Q220 : Qt := qcons 220 q220 Q201
theorem Q220_ok : QOk R Q220 := qcons_ok t220 Q201_ok
/-! spec.l1Value -/
def g181_0 (x0 : Int) (x1 : Int) : Bool := bif g201_0 x0 then g144_0 x1 (0 : Int) (IntKind.wrap IntKind.i64 (g220_0 x0 - (1 : Int))) else false
theorem e181 (x0 : Int) (x1 : Int) : fnT Q220 [] [] 0 F181 [.one (.lit (.int .i64 x0)), .one (.lit (.int .i64 x1))] [] = some ((SV.one (T.lit (Value.bool (g181_0 x0 x1))), []), true) := by kernel_rfl
def q181 : List SV → List Blk → Option ((SV × List Blk) × Bool)
  | [.one (.lit (.int .i64 x0)), .one (.lit (.int .i64 x1))], [] => some ((SV.one (T.lit (Value.bool (g181_0 x0 x1))), []), true)
  | _, _ => none
theorem t181 (args : List SV) (hp : List Blk) (r : SV × List Blk) (h : q181 args hp = some (r, true)) : R 181 args hp = some r := by
  unfold q181 at h
  split at h
  · rename_i x0 x1; exact R_fn at181 0 (fnT_run Q220_ok ((e181 x0 x1).trans h))
  · simp at h
noncomputable def Q181 : Qt := qcons 181 q181 Q220
theorem Q181_ok : QOk R Q181 := qcons_ok t181 Q220_ok
/-! spec.l1Two -/
def g153_0 (x0 : Int) (x1 : Int) (x2 : Int) (x3 : Int) : Bool := bif bif g181_0 x0 x2 then g181_0 x0 x3 else false then g144_0 x1 (0 : Int) (1 : Int) else false
theorem e153 (x0 : Int) (x1 : Int) (x2 : Int) (x3 : Int) : fnT Q181 [] [] 0 F153 [.one (.lit (.int .i64 x0)), .one (.lit (.int .i64 x1)), .one (.lit (.int .i64 x2)), .one (.lit (.int .i64 x3))] [] = some ((SV.one (T.lit (Value.bool (g153_0 x0 x1 x2 x3))), []), true) := by kernel_rfl
def q153 : List SV → List Blk → Option ((SV × List Blk) × Bool)
  | [.one (.lit (.int .i64 x0)), .one (.lit (.int .i64 x1)), .one (.lit (.int .i64 x2)), .one (.lit (.int .i64 x3))], [] => some ((SV.one (T.lit (Value.bool (g153_0 x0 x1 x2 x3))), []), true)
  | _, _ => none
theorem t153 (args : List SV) (hp : List Blk) (r : SV × List Blk) (h : q153 args hp = some (r, true)) : R 153 args hp = some r := by
  unfold q153 at h
  split at h
  · rename_i x0 x1 x2 x3; exact R_fn at153 0 (fnT_run Q181_ok ((e153 x0 x1 x2 x3).trans h))
  · simp at h
noncomputable def Q153 : Qt := qcons 153 q153 Q181
theorem Q153_ok : QOk R Q153 := qcons_ok t153 Q181_ok
/-! spec.l1Flag -/
def g168_0 (x0 : Bool) (x1 : Int) : Int := bif x0 then x1 else (0 : Int)
theorem e168 (x0 : Bool) (x1 : Int) : fnT Q153 [] [] 0 F168 [.one (.lit (.bool x0)), .one (.lit (.int .i64 x1))] [] = some ((SV.one (T.lit (Value.int IntKind.i64 (g168_0 x0 x1))), []), true) := by kernel_rfl
def q168 : List SV → List Blk → Option ((SV × List Blk) × Bool)
  | [.one (.lit (.bool x0)), .one (.lit (.int .i64 x1))], [] => some ((SV.one (T.lit (Value.int IntKind.i64 (g168_0 x0 x1))), []), true)
  | _, _ => none
theorem t168 (args : List SV) (hp : List Blk) (r : SV × List Blk) (h : q168 args hp = some (r, true)) : R 168 args hp = some r := by
  unfold q168 at h
  split at h
  · rename_i x0 x1; exact R_fn at168 0 (fnT_run Q153_ok ((e168 x0 x1).trans h))
  · simp at h
noncomputable def Q168 : Qt := qcons 168 q168 Q153
theorem Q168_ok : QOk R Q168 := qcons_ok t168 Q153_ok
/-! spec.l1Signed -/
def g182_0 (x0 : Int) (x1 : Int) : Int := bif decide (x1 ≥ IntKind.wrap IntKind.i64 (Int.tdiv (g220_0 x0) (2 : Int))) then IntKind.wrap IntKind.i64 (x1 - g220_0 x0) else x1
theorem e182 (x0 : Int) (x1 : Int) : fnT Q168 [] [] 0 F182 [.one (.lit (.int .i64 x0)), .one (.lit (.int .i64 x1))] [] = some ((SV.one (T.lit (Value.int IntKind.i64 (g182_0 x0 x1))), []), true) := by kernel_rfl
def q182 : List SV → List Blk → Option ((SV × List Blk) × Bool)
  | [.one (.lit (.int .i64 x0)), .one (.lit (.int .i64 x1))], [] => some ((SV.one (T.lit (Value.int IntKind.i64 (g182_0 x0 x1))), []), true)
  | _, _ => none
theorem t182 (args : List SV) (hp : List Blk) (r : SV × List Blk) (h : q182 args hp = some (r, true)) : R 182 args hp = some r := by
  unfold q182 at h
  split at h
  · rename_i x0 x1; exact R_fn at182 0 (fnT_run Q168_ok ((e182 x0 x1).trans h))
  · simp at h
noncomputable def Q182 : Qt := qcons 182 q182 Q168
theorem Q182_ok : QOk R Q182 := qcons_ok t182 Q168_ok
/-! spec.l1Zn -/
def g221_0 (x0 : Int) (x1 : Int) : Int := IntKind.wrap IntKind.i64 ↑(BitVec.toNat (BitVec.ofInt (64 : Nat) (g168_0 (x1 == (0 : Int)) (4 : Int)) ||| BitVec.ofInt (64 : Nat) (g168_0 (decide (x1 ≥ IntKind.wrap IntKind.i64 (Int.tdiv (g220_0 x0) (2 : Int)))) (8 : Int))))
theorem e221 (x0 : Int) (x1 : Int) : fnT Q182 [] [] 0 F221 [.one (.lit (.int .i64 x0)), .one (.lit (.int .i64 x1))] [] = some ((SV.one (T.lit (Value.int IntKind.i64 (g221_0 x0 x1))), []), true) := by kernel_rfl
def q221 : List SV → List Blk → Option ((SV × List Blk) × Bool)
  | [.one (.lit (.int .i64 x0)), .one (.lit (.int .i64 x1))], [] => some ((SV.one (T.lit (Value.int IntKind.i64 (g221_0 x0 x1))), []), true)
  | _, _ => none
theorem t221 (args : List SV) (hp : List Blk) (r : SV × List Blk) (h : q221 args hp = some (r, true)) : R 221 args hp = some r := by
  unfold q221 at h
  split at h
  · rename_i x0 x1; exact R_fn at221 0 (fnT_run Q182_ok ((e221 x0 x1).trans h))
  · simp at h
noncomputable def Q221 : Qt := qcons 221 q221 Q182
theorem Q221_ok : QOk R Q221 := qcons_ok t221 Q182_ok
/-! spec.l1Add -/
def g154_0 (x0 : Int) (x1 : Int) (x2 : Int) (x3 : Int) : Int := IntKind.wrap IntKind.i64 ↑(BitVec.toNat (BitVec.ofInt (64 : Nat) (IntKind.wrap IntKind.i64 (IntKind.wrap IntKind.i64 (x2 + x3) + x1)) &&& BitVec.ofInt (64 : Nat) (IntKind.wrap IntKind.i64 (g220_0 x0 - (1 : Int)))))
def g154_1 (x0 : Int) (x1 : Int) (x2 : Int) (x3 : Int) : Int := IntKind.wrap IntKind.i64 ↑(BitVec.toNat (BitVec.ofInt (64 : Nat) (IntKind.wrap IntKind.i64 ↑(BitVec.toNat (BitVec.ofInt (64 : Nat) (g168_0 (IntKind.wrap IntKind.i64 (IntKind.wrap IntKind.i64 (x2 + x3) + x1) != IntKind.wrap IntKind.i64 ↑(BitVec.toNat (BitVec.ofInt (64 : Nat) (IntKind.wrap IntKind.i64 (IntKind.wrap IntKind.i64 (x2 + x3) + x1)) &&& BitVec.ofInt (64 : Nat) (IntKind.wrap IntKind.i64 (g220_0 x0 - (1 : Int)))))) (17 : Int)) ||| BitVec.ofInt (64 : Nat) (g168_0 (IntKind.wrap IntKind.i64 (IntKind.wrap IntKind.i64 (g182_0 x0 x2 + g182_0 x0 x3) + x1) != g182_0 x0 (IntKind.wrap IntKind.i64 ↑(BitVec.toNat (BitVec.ofInt (64 : Nat) (IntKind.wrap IntKind.i64 (IntKind.wrap IntKind.i64 (x2 + x3) + x1)) &&& BitVec.ofInt (64 : Nat) (IntKind.wrap IntKind.i64 (g220_0 x0 - (1 : Int))))))) (2 : Int))))) ||| BitVec.ofInt (64 : Nat) (g221_0 x0 (IntKind.wrap IntKind.i64 ↑(BitVec.toNat (BitVec.ofInt (64 : Nat) (IntKind.wrap IntKind.i64 (IntKind.wrap IntKind.i64 (x2 + x3) + x1)) &&& BitVec.ofInt (64 : Nat) (IntKind.wrap IntKind.i64 (g220_0 x0 - (1 : Int)))))))))
theorem e154 (x0 : Int) (x1 : Int) (x2 : Int) (x3 : Int) : fnT Q221 [] [] 0 F154 [.one (.lit (.int .i64 x0)), .one (.lit (.int .i64 x1)), .one (.lit (.int .i64 x2)), .one (.lit (.int .i64 x3))] [] = some ((SV.tup [SV.one (T.lit (Value.int IntKind.i64 (g154_0 x0 x1 x2 x3))), SV.one (T.lit (Value.int IntKind.i64 (g154_1 x0 x1 x2 x3)))], []), true) := by kernel_rfl
def q154 : List SV → List Blk → Option ((SV × List Blk) × Bool)
  | [.one (.lit (.int .i64 x0)), .one (.lit (.int .i64 x1)), .one (.lit (.int .i64 x2)), .one (.lit (.int .i64 x3))], [] => some ((SV.tup [SV.one (T.lit (Value.int IntKind.i64 (g154_0 x0 x1 x2 x3))), SV.one (T.lit (Value.int IntKind.i64 (g154_1 x0 x1 x2 x3)))], []), true)
  | _, _ => none
theorem t154 (args : List SV) (hp : List Blk) (r : SV × List Blk) (h : q154 args hp = some (r, true)) : R 154 args hp = some r := by
  unfold q154 at h
  split at h
  · rename_i x0 x1 x2 x3; exact R_fn at154 0 (fnT_run Q221_ok ((e154 x0 x1 x2 x3).trans h))
  · simp at h
noncomputable def Q154 : Qt := qcons 154 q154 Q221
theorem Q154_ok : QOk R Q154 := qcons_ok t154 Q221_ok
/-! spec.AddFlags -/
def g29_0 (x0 : Int) (x1 : Int) (x2 : Int) (x3 : Int) : Int := bif !g153_0 x0 x1 x2 x3 then (0 : Int) else g154_0 x0 x1 x2 x3
def g29_1 (x0 : Int) (x1 : Int) (x2 : Int) (x3 : Int) : Int := bif !g153_0 x0 x1 x2 x3 then (0 : Int) else g154_1 x0 x1 x2 x3
def r29_2 (x0 : Int) (x1 : Int) (x2 : Int) (x3 : Int) : Bool := bif !g153_0 x0 x1 x2 x3 then false else true
def g29_2 (x0 : Int) (x1 : Int) (x2 : Int) (x3 : Int) : Bool := g153_0 x0 x1 x2 x3
theorem c29_2 (x0 : Int) (x1 : Int) (x2 : Int) (x3 : Int) : r29_2 x0 x1 x2 x3 = g29_2 x0 x1 x2 x3 := by simp only [r29_2, g29_2, Bool.cond_self, bif_tf, bif_ft, Bool.not_not]
theorem d29 (x0 : Int) (x1 : Int) (x2 : Int) (x3 : Int) : fnT Q154 [] [] 0 F29 [.one (.lit (.int .i64 x0)), .one (.lit (.int .i64 x1)), .one (.lit (.int .i64 x2)), .one (.lit (.int .i64 x3))] [] = some ((SV.tup [SV.one (T.lit (Value.int IntKind.i64 (g29_0 x0 x1 x2 x3))), SV.one (T.lit (Value.int IntKind.i64 (g29_1 x0 x1 x2 x3))), SV.one (T.lit (Value.bool (r29_2 x0 x1 x2 x3)))], []), true) := by kernel_rfl
theorem e29 (x0 : Int) (x1 : Int) (x2 : Int) (x3 : Int) : fnT Q154 [] [] 0 F29 [.one (.lit (.int .i64 x0)), .one (.lit (.int .i64 x1)), .one (.lit (.int .i64 x2)), .one (.lit (.int .i64 x3))] [] = some ((SV.tup [SV.one (T.lit (Value.int IntKind.i64 (g29_0 x0 x1 x2 x3))), SV.one (T.lit (Value.int IntKind.i64 (g29_1 x0 x1 x2 x3))), SV.one (T.lit (Value.bool (g29_2 x0 x1 x2 x3)))], []), true) := by rw [d29, c29_2]
def q29 : List SV → List Blk → Option ((SV × List Blk) × Bool)
  | [.one (.lit (.int .i64 x0)), .one (.lit (.int .i64 x1)), .one (.lit (.int .i64 x2)), .one (.lit (.int .i64 x3))], [] => some ((SV.tup [SV.one (T.lit (Value.int IntKind.i64 (g29_0 x0 x1 x2 x3))), SV.one (T.lit (Value.int IntKind.i64 (g29_1 x0 x1 x2 x3))), SV.one (T.lit (Value.bool (g29_2 x0 x1 x2 x3)))], []), true)
  | _, _ => none
theorem t29 (args : List SV) (hp : List Blk) (r : SV × List Blk) (h : q29 args hp = some (r, true)) : R 29 args hp = some r := by
  unfold q29 at h
  split at h
  · rename_i x0 x1 x2 x3; exact R_fn at29 0 (fnT_run Q154_ok ((e29 x0 x1 x2 x3).trans h))
  · simp at h
noncomputable def Q29 : Qt := qcons 29 q29 Q154
theorem Q29_ok : QOk R Q29 := qcons_ok t29 Q154_ok
/-! impl.subFlags -/
def g155_0 (x0 : Int) (x1 : Int) (x2 : Int) (x3 : Int) : Int := g219_0 x0 (IntKind.wrap IntKind.i64 (IntKind.wrap IntKind.i64 (x2 - x3) - x1))
def g155_1 (x0 : Int) (x1 : Int) (x2 : Int) (x3 : Int) : Int := g219_1 x0 (IntKind.wrap IntKind.i64 (IntKind.wrap IntKind.i64 (x2 - x3) - x1)) (IntKind.wrap IntKind.i64 (IntKind.wrap IntKind.i64 (g157_0 x0 x2 - g157_0 x0 x3) - x1))
theorem k155 (x0 : Int) (x1 : Int) (x2 : Int) (x3 : Int) (h : (decide ((0 : Int) ≤ IntKind.wrap IntKind.i64 ((8 : Int) * x0))) = true) : (decide ((0 : Int) ≤ IntKind.wrap IntKind.i64 ((8 : Int) * x0)) && (decide ((0 : Int) ≤ IntKind.wrap IntKind.i64 ((8 : Int) * x0)) && (decide ((0 : Int) ≤ IntKind.wrap IntKind.i64 ((8 : Int) * x0)) && true)) && true) = true := by
  have h0 := h
  simp only [h0, Bool.and_true, Bool.true_and, Bool.or_true, Bool.true_or, Bool.or_false, Bool.false_or, Bool.and_self, Bool.cond_self, Bool.not_true, Bool.not_false, Bool.false_and, Bool.and_false, u64_dec]
theorem e155 (x0 : Int) (x1 : Int) (x2 : Int) (x3 : Int) : fnT Q29 [] [] 0 F155 [.one (.lit (.int .i64 x0)), .one (.lit (.int .i64 x1)), .one (.lit (.int .i64 x2)), .one (.lit (.int .i64 x3))] [] = some ((SV.tup [SV.one (T.lit (Value.int IntKind.i64 (g155_0 x0 x1 x2 x3))), SV.one (T.lit (Value.int IntKind.i64 (g155_1 x0 x1 x2 x3)))], []), decide ((0 : Int) ≤ IntKind.wrap IntKind.i64 ((8 : Int) * x0)) && (decide ((0 : Int) ≤ IntKind.wrap IntKind.i64 ((8 : Int) * x0)) && (decide ((0 : Int) ≤ IntKind.wrap IntKind.i64 ((8 : Int) * x0)) && true)) && true) := by kernel_rfl
def q155 : List SV → List Blk → Option ((SV × List Blk) × Bool)
  | [.one (.lit (.int .i64 x0)), .one (.lit (.int .i64 x1)), .one (.lit (.int .i64 x2)), .one (.lit (.int .i64 x3))], [] => some ((SV.tup [SV.one (T.lit (Value.int IntKind.i64 (g155_0 x0 x1 x2 x3))), SV.one (T.lit (Value.int IntKind.i64 (g155_1 x0 x1 x2 x3)))], []), decide ((0 : Int) ≤ IntKind.wrap IntKind.i64 ((8 : Int) * x0)))
  | _, _ => none
theorem t155 (args : List SV) (hp : List Blk) (r : SV × List Blk) (h : q155 args hp = some (r, true)) : R 155 args hp = some r := by
  unfold q155 at h
  split at h
  · rename_i x0 x1 x2 x3; exact R_fn at155 0 (fnT_run Q29_ok (okTrans (e155 x0 x1 x2 x3) (k155 x0 x1 x2 x3) h))
  · simp at h
noncomputable def Q155 : Qt := qcons 155 q155 Q29
theorem Q155_ok : QOk R Q155 := qcons_ok t155 Q29_ok
/-! impl.SubFlags -/
def g30_0 (x0 : Int) (x1 : Int) (x2 : Int) (x3 : Int) : Int := bif bif bif !g150_0 x1 then true else !g151_0 x0 x2 then true else !g151_0 x0 x3 then (0 : Int) else g155_0 x0 x1 x2 x3
def g30_1 (x0 : Int) (x1 : Int) (x2 : Int) (x3 : Int) : Int := bif bif bif !g150_0 x1 then true else !g151_0 x0 x2 then true else !g151_0 x0 x3 then (0 : Int) else g155_1 x0 x1 x2 x3
def r30_2 (x0 : Int) (x1 : Int) (x2 : Int) (x3 : Int) : Bool := bif bif bif !g150_0 x1 then true else !g151_0 x0 x2 then true else !g151_0 x0 x3 then false else true
def g30_2 (x0 : Int) (x1 : Int) (x2 : Int) (x3 : Int) : Bool := !bif bif !g150_0 x1 then true else !g151_0 x0 x2 then true else !g151_0 x0 x3
theorem c30_2 (x0 : Int) (x1 : Int) (x2 : Int) (x3 : Int) : r30_2 x0 x1 x2 x3 = g30_2 x0 x1 x2 x3 := by simp only [r30_2, g30_2, Bool.cond_self, bif_tf, bif_ft, Bool.not_not]
theorem k30 (x0 : Int) (x1 : Int) (x2 : Int) (x3 : Int) (h : (true) = true) : (decide ((0 : Int) ≤ IntKind.wrap IntKind.i64 ((8 : Int) * x0)) && true && true || bif bif !g150_0 x1 then true else !g151_0 x0 x2 then true else !g151_0 x0 x3) = true := by
  cases hs : g198_0 x0
  · simp [g151_0, hs]
  · simp [size_pos hs]
theorem d30 (x0 : Int) (x1 : Int) (x2 : Int) (x3 : Int) : fnT Q155 [] [] 0 F30 [.one (.lit (.int .i64 x0)), .one (.lit (.int .i64 x1)), .one (.lit (.int .i64 x2)), .one (.lit (.int .i64 x3))] [] = some ((SV.tup [SV.one (T.lit (Value.int IntKind.i64 (g30_0 x0 x1 x2 x3))), SV.one (T.lit (Value.int IntKind.i64 (g30_1 x0 x1 x2 x3))), SV.one (T.lit (Value.bool (r30_2 x0 x1 x2 x3)))], []), decide ((0 : Int) ≤ IntKind.wrap IntKind.i64 ((8 : Int) * x0)) && true && true || bif bif !g150_0 x1 then true else !g151_0 x0 x2 then true else !g151_0 x0 x3) := by kernel_rfl
theorem e30 (x0 : Int) (x1 : Int) (x2 : Int) (x3 : Int) : fnT Q155 [] [] 0 F30 [.one (.lit (.int .i64 x0)), .one (.lit (.int .i64 x1)), .one (.lit (.int .i64 x2)), .one (.lit (.int .i64 x3))] [] = some ((SV.tup [SV.one (T.lit (Value.int IntKind.i64 (g30_0 x0 x1 x2 x3))), SV.one (T.lit (Value.int IntKind.i64 (g30_1 x0 x1 x2 x3))), SV.one (T.lit (Value.bool (g30_2 x0 x1 x2 x3)))], []), decide ((0 : Int) ≤ IntKind.wrap IntKind.i64 ((8 : Int) * x0)) && true && true || bif bif !g150_0 x1 then true else !g151_0 x0 x2 then true else !g151_0 x0 x3) := by rw [d30, c30_2]
def q30 : List SV → List Blk → Option ((SV × List Blk) × Bool)
  | [.one (.lit (.int .i64 x0)), .one (.lit (.int .i64 x1)), .one (.lit (.int .i64 x2)), .one (.lit (.int .i64 x3))], [] => some ((SV.tup [SV.one (T.lit (Value.int IntKind.i64 (g30_0 x0 x1 x2 x3))), SV.one (T.lit (Value.int IntKind.i64 (g30_1 x0 x1 x2 x3))), SV.one (T.lit (Value.bool (g30_2 x0 x1 x2 x3)))], []), true)
  | _, _ => none
theorem t30 (args : List SV) (hp : List Blk) (r : SV × List Blk) (h : q30 args hp = some (r, true)) : R 30 args hp = some r := by
  unfold q30 at h
  split at h
  · rename_i x0 x1 x2 x3; exact R_fn at30 0 (fnT_run Q155_ok (okTrans (e30 x0 x1 x2 x3) (k30 x0 x1 x2 x3) h))
  · simp at h
noncomputable def Q30 : Qt := qcons 30 q30 Q155
theorem Q30_ok : QOk R Q30 := qcons_ok t30 Q155_ok
/-! spec.l1Sub -/
def g156_0 (x0 : Int) (x1 : Int) (x2 : Int) (x3 : Int) : Int := IntKind.wrap IntKind.i64 ↑(BitVec.toNat (BitVec.ofInt (64 : Nat) (IntKind.wrap IntKind.i64 (IntKind.wrap IntKind.i64 (x2 - x3) - x1)) &&& BitVec.ofInt (64 : Nat) (IntKind.wrap IntKind.i64 (g220_0 x0 - (1 : Int)))))
def g156_1 (x0 : Int) (x1 : Int) (x2 : Int) (x3 : Int) : Int := IntKind.wrap IntKind.i64 ↑(BitVec.toNat (BitVec.ofInt (64 : Nat) (IntKind.wrap IntKind.i64 ↑(BitVec.toNat (BitVec.ofInt (64 : Nat) (g168_0 (decide (IntKind.wrap IntKind.i64 (IntKind.wrap IntKind.i64 (x2 - x3) - x1) < (0 : Int))) (17 : Int)) ||| BitVec.ofInt (64 : Nat) (g168_0 (IntKind.wrap IntKind.i64 (IntKind.wrap IntKind.i64 (g182_0 x0 x2 - g182_0 x0 x3) - x1) != g182_0 x0 (IntKind.wrap IntKind.i64 ↑(BitVec.toNat (BitVec.ofInt (64 : Nat) (IntKind.wrap IntKind.i64 (IntKind.wrap IntKind.i64 (x2 - x3) - x1)) &&& BitVec.ofInt (64 : Nat) (IntKind.wrap IntKind.i64 (g220_0 x0 - (1 : Int))))))) (2 : Int))))) ||| BitVec.ofInt (64 : Nat) (g221_0 x0 (IntKind.wrap IntKind.i64 ↑(BitVec.toNat (BitVec.ofInt (64 : Nat) (IntKind.wrap IntKind.i64 (IntKind.wrap IntKind.i64 (x2 - x3) - x1)) &&& BitVec.ofInt (64 : Nat) (IntKind.wrap IntKind.i64 (g220_0 x0 - (1 : Int)))))))))
theorem e156 (x0 : Int) (x1 : Int) (x2 : Int) (x3 : Int) : fnT Q30 [] [] 0 F156 [.one (.lit (.int .i64 x0)), .one (.lit (.int .i64 x1)), .one (.lit (.int .i64 x2)), .one (.lit (.int .i64 x3))] [] = some ((SV.tup [SV.one (T.lit (Value.int IntKind.i64 (g156_0 x0 x1 x2 x3))), SV.one (T.lit (Value.int IntKind.i64 (g156_1 x0 x1 x2 x3)))], []), true) := by kernel_rfl
def q156 : List SV → List Blk → Option ((SV × List Blk) × Bool)
  | [.one (.lit (.int .i64 x0)), .one (.lit (.int .i64 x1)), .one (.lit (.int .i64 x2)), .one (.lit (.int .i64 x3))], [] => some ((SV.tup [SV.one (T.lit (Value.int IntKind.i64 (g156_0 x0 x1 x2 x3))), SV.one (T.lit (Value.int IntKind.i64 (g156_1 x0 x1 x2 x3)))], []), true)
  | _, _ => none
theorem t156 (args : List SV) (hp : List Blk) (r : SV × List Blk) (h : q156 args hp = some (r, true)) : R 156 args hp = some r := by
  unfold q156 at h
  split at h
  · rename_i x0 x1 x2 x3; exact R_fn at156 0 (fnT_run Q30_ok ((e156 x0 x1 x2 x3).trans h))
  · simp at h
noncomputable def Q156 : Qt := qcons 156 q156 Q30
theorem Q156_ok : QOk R Q156 := qcons_ok t156 Q30_ok
/-! spec.SubFlags -/
def g31_0 (x0 : Int) (x1 : Int) (x2 : Int) (x3 : Int) : Int := bif !g153_0 x0 x1 x2 x3 then (0 : Int) else g156_0 x0 x1 x2 x3
def g31_1 (x0 : Int) (x1 : Int) (x2 : Int) (x3 : Int) : Int := bif !g153_0 x0 x1 x2 x3 then (0 : Int) else g156_1 x0 x1 x2 x3
def r31_2 (x0 : Int) (x1 : Int) (x2 : Int) (x3 : Int) : Bool := bif !g153_0 x0 x1 x2 x3 then false else true
def g31_2 (x0 : Int) (x1 : Int) (x2 : Int) (x3 : Int) : Bool := g153_0 x0 x1 x2 x3
theorem c31_2 (x0 : Int) (x1 : Int) (x2 : Int) (x3 : Int) : r31_2 x0 x1 x2 x3 = g31_2 x0 x1 x2 x3 := by simp only [r31_2, g31_2, Bool.cond_self, bif_tf, bif_ft, Bool.not_not]
theorem d31 (x0 : Int) (x1 : Int) (x2 : Int) (x3 : Int) : fnT Q156 [] [] 0 F31 [.one (.lit (.int .i64 x0)), .one (.lit (.int .i64 x1)), .one (.lit (.int .i64 x2)), .one (.lit (.int .i64 x3))] [] = some ((SV.tup [SV.one (T.lit (Value.int IntKind.i64 (g31_0 x0 x1 x2 x3))), SV.one (T.lit (Value.int IntKind.i64 (g31_1 x0 x1 x2 x3))), SV.one (T.lit (Value.bool (r31_2 x0 x1 x2 x3)))], []), true) := by kernel_rfl
theorem e31 (x0 : Int) (x1 : Int) (x2 : Int) (x3 : Int) : fnT Q156 [] [] 0 F31 [.one (.lit (.int .i64 x0)), .one (.lit (.int .i64 x1)), .one (.lit (.int .i64 x2)), .one (.lit (.int .i64 x3))] [] = some ((SV.tup [SV.one (T.lit (Value.int IntKind.i64 (g31_0 x0 x1 x2 x3))), SV.one (T.lit (Value.int IntKind.i64 (g31_1 x0 x1 x2 x3))), SV.one (T.lit (Value.bool (g31_2 x0 x1 x2 x3)))], []), true) := by rw [d31, c31_2]
def q31 : List SV → List Blk → Option ((SV × List Blk) × Bool)
  | [.one (.lit (.int .i64 x0)), .one (.lit (.int .i64 x1)), .one (.lit (.int .i64 x2)), .one (.lit (.int .i64 x3))], [] => some ((SV.tup [SV.one (T.lit (Value.int IntKind.i64 (g31_0 x0 x1 x2 x3))), SV.one (T.lit (Value.int IntKind.i64 (g31_1 x0 x1 x2 x3))), SV.one (T.lit (Value.bool (g31_2 x0 x1 x2 x3)))], []), true)
  | _, _ => none
theorem t31 (args : List SV) (hp : List Blk) (r : SV × List Blk) (h : q31 args hp = some (r, true)) : R 31 args hp = some r := by
  unfold q31 at h
  split at h
  · rename_i x0 x1 x2 x3; exact R_fn at31 0 (fnT_run Q156_ok ((e31 x0 x1 x2 x3).trans h))
  · simp at h
noncomputable def Q31 : Qt := qcons 31 q31 Q156
theorem Q31_ok : QOk R Q31 := qcons_ok t31 Q156_ok
/-! laws.topOf -/
def g32_0 (x0 : Int) : Int := bif x0 == (1 : Int) then (256 : Int) else (65536 : Int)
theorem e32 (x0 : Int) : fnT Q31 [] [] 0 F32 [.one (.lit (.int .i64 x0))] [] = some ((SV.one (T.lit (Value.int IntKind.i64 (g32_0 x0))), []), true) := by kernel_rfl
def q32 : List SV → List Blk → Option ((SV × List Blk) × Bool)
  | [.one (.lit (.int .i64 x0))], [] => some ((SV.one (T.lit (Value.int IntKind.i64 (g32_0 x0))), []), true)
  | _, _ => none
theorem t32 (args : List SV) (hp : List Blk) (r : SV × List Blk) (h : q32 args hp = some (r, true)) : R 32 args hp = some r := by
  unfold q32 at h
  split at h
  · rename_i x0; exact R_fn at32 0 (fnT_run Q31_ok ((e32 x0).trans h))
  · simp at h
noncomputable def Q32 : Qt := qcons 32 q32 Q31
theorem Q32_ok : QOk R Q32 := qcons_ok t32 Q31_ok
theorem top_ne {s : Int} : (g32_0 s != 0) = true := by
  unfold g32_0
  cases s == 1 <;> rfl
/-! impl.SignedOf -/
def g33_0 (x0 : Int) (x1 : Int) : Int := bif !g151_0 x0 x1 then (0 : Int) else g157_0 x0 x1
def r33_1 (x0 : Int) (x1 : Int) : Bool := bif !g151_0 x0 x1 then false else true
theorem c33_1 (x0 : Int) (x1 : Int) : r33_1 x0 x1 = g151_0 x0 x1 := by simp only [r33_1, Bool.cond_self, bif_tf, bif_ft, Bool.not_not]
theorem k33 (x0 : Int) (x1 : Int) (h : (true) = true) : (decide ((0 : Int) ≤ IntKind.wrap IntKind.i64 ((8 : Int) * x0)) && true && true || !g151_0 x0 x1) = true := by
  cases hs : g198_0 x0
  · simp [g151_0, hs]
  · simp [size_pos hs]
theorem d33 (x0 : Int) (x1 : Int) : fnT Q32 [] [] 0 F33 [.one (.lit (.int .i64 x0)), .one (.lit (.int .i64 x1))] [] = some ((SV.tup [SV.one (T.lit (Value.int IntKind.i64 (g33_0 x0 x1))), SV.one (T.lit (Value.bool (r33_1 x0 x1)))], []), decide ((0 : Int) ≤ IntKind.wrap IntKind.i64 ((8 : Int) * x0)) && true && true || !g151_0 x0 x1) := by kernel_rfl
theorem e33 (x0 : Int) (x1 : Int) : fnT Q32 [] [] 0 F33 [.one (.lit (.int .i64 x0)), .one (.lit (.int .i64 x1))] [] = some ((SV.tup [SV.one (T.lit (Value.int IntKind.i64 (g33_0 x0 x1))), SV.one (T.lit (Value.bool (g151_0 x0 x1)))], []), decide ((0 : Int) ≤ IntKind.wrap IntKind.i64 ((8 : Int) * x0)) && true && true || !g151_0 x0 x1) := by rw [d33, c33_1]
def q33 : List SV → List Blk → Option ((SV × List Blk) × Bool)
  | [.one (.lit (.int .i64 x0)), .one (.lit (.int .i64 x1))], [] => some ((SV.tup [SV.one (T.lit (Value.int IntKind.i64 (g33_0 x0 x1))), SV.one (T.lit (Value.bool (g151_0 x0 x1)))], []), true)
  | _, _ => none
theorem t33 (args : List SV) (hp : List Blk) (r : SV × List Blk) (h : q33 args hp = some (r, true)) : R 33 args hp = some r := by
  unfold q33 at h
  split at h
  · rename_i x0 x1; exact R_fn at33 0 (fnT_run Q32_ok (okTrans (e33 x0 x1) (k33 x0 x1) h))
  · simp at h
noncomputable def Q33 : Qt := qcons 33 q33 Q32
theorem Q33_ok : QOk R Q33 := qcons_ok t33 Q32_ok
/-! spec.DrawSignedOf -/
def g158_0 (x0 : List Row) : Int := g148_0 x0 (0 : Int) (0 : Int)
def g158_1 (x0 : List Row) : Int := g149_0 x0 (1 : Int) (g148_2 x0 (0 : Int) (0 : Int)) (g148_0 x0 (0 : Int) (0 : Int))
theorem k158 (x0 : List Row) (h : (bytesOk x0) = true) : (bytesOk x0 && true && true && (bytesOk x0 && true && true && true)) = true := by
  have h0 := h
  simp only [h0, Bool.and_true, Bool.true_and, Bool.or_true, Bool.true_or, Bool.or_false, Bool.false_or, Bool.and_self, Bool.cond_self, Bool.not_true, Bool.not_false, Bool.false_and, Bool.and_false, u64_dec]
theorem e158 (x0 : List Row) : fnT Q33 [] [] 0 F158 [.one (.imm true 1 x0)] [] = some ((SV.tup [SV.one (T.lit (Value.int IntKind.i64 (g158_0 x0))), SV.one (T.lit (Value.int IntKind.i64 (g158_1 x0)))], []), bytesOk x0 && true && true && (bytesOk x0 && true && true && true)) := by kernel_rfl
def q158 : List SV → List Blk → Option ((SV × List Blk) × Bool)
  | [.one (.imm true 1 x0)], [] => some ((SV.tup [SV.one (T.lit (Value.int IntKind.i64 (g158_0 x0))), SV.one (T.lit (Value.int IntKind.i64 (g158_1 x0)))], []), bytesOk x0)
  | _, _ => none
theorem t158 (args : List SV) (hp : List Blk) (r : SV × List Blk) (h : q158 args hp = some (r, true)) : R 158 args hp = some r := by
  unfold q158 at h
  split at h
  · rename_i x0; exact R_fn at158 0 (fnT_run Q33_ok (okTrans (e158 x0) (k158 x0) h))
  · simp at h
noncomputable def Q158 : Qt := qcons 158 q158 Q33
theorem Q158_ok : QOk R Q158 := qcons_ok t158 Q33_ok
/-! spec.DrawNegFlags -/
theorem k34 (x0 : List Row) (h : (bytesOk x0) = true) : (bytesOk x0 && true && true) = true := by
  have h0 := h
  simp only [h0, Bool.and_true, Bool.true_and, Bool.or_true, Bool.true_or, Bool.or_false, Bool.false_or, Bool.and_self, Bool.cond_self, Bool.not_true, Bool.not_false, Bool.false_and, Bool.and_false, u64_dec]
theorem e34 (x0 : List Row) : fnT Q158 [] [] 0 F34 [.one (.imm true 1 x0)] [] = some ((SV.tup [SV.one (T.lit (Value.int IntKind.i64 (g158_0 x0))), SV.one (T.lit (Value.int IntKind.i64 (g158_1 x0)))], []), bytesOk x0 && true && true) := by kernel_rfl
def q34 : List SV → List Blk → Option ((SV × List Blk) × Bool)
  | [.one (.imm true 1 x0)], [] => some ((SV.tup [SV.one (T.lit (Value.int IntKind.i64 (g158_0 x0))), SV.one (T.lit (Value.int IntKind.i64 (g158_1 x0)))], []), bytesOk x0)
  | _, _ => none
theorem t34 (args : List SV) (hp : List Blk) (r : SV × List Blk) (h : q34 args hp = some (r, true)) : R 34 args hp = some r := by
  unfold q34 at h
  split at h
  · rename_i x0; exact R_fn at34 0 (fnT_run Q158_ok (okTrans (e34 x0) (k34 x0) h))
  · simp at h
noncomputable def Q34 : Qt := qcons 34 q34 Q158
theorem Q34_ok : QOk R Q34 := qcons_ok t34 Q158_ok
/-! impl.NegFlags -/
def g35_0 (x0 : Int) (x1 : Int) : Int := g30_0 x0 (0 : Int) (0 : Int) x1
def g35_1 (x0 : Int) (x1 : Int) : Int := g30_1 x0 (0 : Int) (0 : Int) x1
def g35_2 (x0 : Int) (x1 : Int) : Bool := g30_2 x0 (0 : Int) (0 : Int) x1
theorem k35 (x0 : Int) (x1 : Int) (h : (true) = true) : (true) = true := by
  cases hs : g198_0 x0
  · simp [g151_0, hs]
  · simp [size_pos hs]
theorem e35 (x0 : Int) (x1 : Int) : fnT Q34 [] [] 0 F35 [.one (.lit (.int .i64 x0)), .one (.lit (.int .i64 x1))] [] = some ((SV.tup [SV.one (T.lit (Value.int IntKind.i64 (g35_0 x0 x1))), SV.one (T.lit (Value.int IntKind.i64 (g35_1 x0 x1))), SV.one (T.lit (Value.bool (g35_2 x0 x1)))], []), true) := by kernel_rfl
def q35 : List SV → List Blk → Option ((SV × List Blk) × Bool)
  | [.one (.lit (.int .i64 x0)), .one (.lit (.int .i64 x1))], [] => some ((SV.tup [SV.one (T.lit (Value.int IntKind.i64 (g35_0 x0 x1))), SV.one (T.lit (Value.int IntKind.i64 (g35_1 x0 x1))), SV.one (T.lit (Value.bool (g35_2 x0 x1)))], []), true)
  | _, _ => none
theorem t35 (args : List SV) (hp : List Blk) (r : SV × List Blk) (h : q35 args hp = some (r, true)) : R 35 args hp = some r := by
  unfold q35 at h
  split at h
  · rename_i x0 x1; exact R_fn at35 0 (fnT_run Q34_ok (okTrans (e35 x0 x1) (k35 x0 x1) h))
  · simp at h
noncomputable def Q35 : Qt := qcons 35 q35 Q34
theorem Q35_ok : QOk R Q35 := qcons_ok t35 Q34_ok
/-! spec.NegFlags -/
def g36_0 (x0 : Int) (x1 : Int) : Int := g31_0 x0 (0 : Int) (0 : Int) x1
def g36_1 (x0 : Int) (x1 : Int) : Int := g31_1 x0 (0 : Int) (0 : Int) x1
def g36_2 (x0 : Int) (x1 : Int) : Bool := g31_2 x0 (0 : Int) (0 : Int) x1
theorem e36 (x0 : Int) (x1 : Int) : fnT Q35 [] [] 0 F36 [.one (.lit (.int .i64 x0)), .one (.lit (.int .i64 x1))] [] = some ((SV.tup [SV.one (T.lit (Value.int IntKind.i64 (g36_0 x0 x1))), SV.one (T.lit (Value.int IntKind.i64 (g36_1 x0 x1))), SV.one (T.lit (Value.bool (g36_2 x0 x1)))], []), true) := by kernel_rfl
def q36 : List SV → List Blk → Option ((SV × List Blk) × Bool)
  | [.one (.lit (.int .i64 x0)), .one (.lit (.int .i64 x1))], [] => some ((SV.tup [SV.one (T.lit (Value.int IntKind.i64 (g36_0 x0 x1))), SV.one (T.lit (Value.int IntKind.i64 (g36_1 x0 x1))), SV.one (T.lit (Value.bool (g36_2 x0 x1)))], []), true)
  | _, _ => none
theorem t36 (args : List SV) (hp : List Blk) (r : SV × List Blk) (h : q36 args hp = some (r, true)) : R 36 args hp = some r := by
  unfold q36 at h
  split at h
  · rename_i x0 x1; exact R_fn at36 0 (fnT_run Q35_ok ((e36 x0 x1).trans h))
  · simp at h
noncomputable def Q36 : Qt := qcons 36 q36 Q35
theorem Q36_ok : QOk R Q36 := qcons_ok t36 Q35_ok
/-! laws.FnSums -/
def g4_0 (x0 : List Row) (x1 : List Row) : Bool := bif decide (IntKind.wrap IntKind.i64 (↑(List.length x0) + ↑(List.length x1)) > (1048576 : Int)) then true else bif bif bif bif bif bif bif !g28_2 (g27_0 x0) (g27_1 x0) (g27_2 x0) (g27_3 x0) == g29_2 (g27_0 x0) (g27_1 x0) (g27_2 x0) (g27_3 x0) then true else g28_0 (g27_0 x0) (g27_1 x0) (g27_2 x0) (g27_3 x0) != g29_0 (g27_0 x0) (g27_1 x0) (g27_2 x0) (g27_3 x0) then true else g28_1 (g27_0 x0) (g27_1 x0) (g27_2 x0) (g27_3 x0) != g29_1 (g27_0 x0) (g27_1 x0) (g27_2 x0) (g27_3 x0) then true else !g30_2 (g27_0 x0) (g27_1 x0) (g27_2 x0) (g27_3 x0) == g31_2 (g27_0 x0) (g27_1 x0) (g27_2 x0) (g27_3 x0) then true else g30_0 (g27_0 x0) (g27_1 x0) (g27_2 x0) (g27_3 x0) != g31_0 (g27_0 x0) (g27_1 x0) (g27_2 x0) (g27_3 x0) then true else g30_1 (g27_0 x0) (g27_1 x0) (g27_2 x0) (g27_3 x0) != g31_1 (g27_0 x0) (g27_1 x0) (g27_2 x0) (g27_3 x0) then true else !g28_2 (g27_0 x0) (g27_1 x0) (g27_2 x0) (g27_3 x0) == g30_2 (g27_0 x0) (g27_1 x0) (g27_2 x0) (g27_3 x0) then false else bif (bif bif bif !g151_0 (g27_0 x0) (g27_2 x0) then true else !g151_0 (g27_0 x0) (g27_3 x0) then true else !g151_0 (g27_0 x0) (g28_0 (g27_0 x0) (g27_1 x0) (g27_2 x0) (g27_3 x0)) then true else !g151_0 (g27_0 x0) (g30_0 (g27_0 x0) (g27_1 x0) (g27_2 x0) (g27_3 x0))) && g28_2 (g27_0 x0) (g27_1 x0) (g27_2 x0) (g27_3 x0) then false else bif (bif bif bif !decide (IntKind.wrap IntKind.i64 (IntKind.wrap IntKind.i64 (g27_2 x0 + g27_3 x0) + g27_1 x0) ≥ g32_0 (g27_0 x0)) == (IntKind.wrap IntKind.i64 ↑(BitVec.toNat (BitVec.ofInt (64 : Nat) (g28_1 (g27_0 x0) (g27_1 x0) (g27_2 x0) (g27_3 x0)) &&& BitVec.ofInt (64 : Nat) (1 : Int))) != (0 : Int)) then true else !decide (IntKind.wrap IntKind.i64 (IntKind.wrap IntKind.i64 (g27_2 x0 - g27_3 x0) - g27_1 x0) < (0 : Int)) == (IntKind.wrap IntKind.i64 ↑(BitVec.toNat (BitVec.ofInt (64 : Nat) (g30_1 (g27_0 x0) (g27_1 x0) (g27_2 x0) (g27_3 x0)) &&& BitVec.ofInt (64 : Nat) (1 : Int))) != (0 : Int)) then true else !(IntKind.wrap IntKind.i64 (IntKind.wrap IntKind.i64 (g33_0 (g27_0 x0) (g27_2 x0) + g33_0 (g27_0 x0) (g27_3 x0)) + g27_1 x0) != g33_0 (g27_0 x0) (g28_0 (g27_0 x0) (g27_1 x0) (g27_2 x0) (g27_3 x0))) == (IntKind.wrap IntKind.i64 ↑(BitVec.toNat (BitVec.ofInt (64 : Nat) (g28_1 (g27_0 x0) (g27_1 x0) (g27_2 x0) (g27_3 x0)) &&& BitVec.ofInt (64 : Nat) (2 : Int))) != (0 : Int)) then true else !(IntKind.wrap IntKind.i64 (IntKind.wrap IntKind.i64 (g33_0 (g27_0 x0) (g27_2 x0) - g33_0 (g27_0 x0) (g27_3 x0)) - g27_1 x0) != g33_0 (g27_0 x0) (g30_0 (g27_0 x0) (g27_1 x0) (g27_2 x0) (g27_3 x0))) == (IntKind.wrap IntKind.i64 ↑(BitVec.toNat (BitVec.ofInt (64 : Nat) (g30_1 (g27_0 x0) (g27_1 x0) (g27_2 x0) (g27_3 x0)) &&& BitVec.ofInt (64 : Nat) (2 : Int))) != (0 : Int))) && g28_2 (g27_0 x0) (g27_1 x0) (g27_2 x0) (g27_3 x0) then false else bif (bif bif bif bif Int.tmod (IntKind.wrap IntKind.i64 (IntKind.wrap IntKind.i64 (IntKind.wrap IntKind.i64 (IntKind.wrap IntKind.i64 (g28_0 (g27_0 x0) (g27_1 x0) (g27_2 x0) (g27_3 x0) + g32_0 (g27_0 x0)) - g27_2 x0) - g27_3 x0) - g27_1 x0)) (g32_0 (g27_0 x0)) != (0 : Int) then true else Int.tmod (IntKind.wrap IntKind.i64 (IntKind.wrap IntKind.i64 (IntKind.wrap IntKind.i64 (IntKind.wrap IntKind.i64 (g30_0 (g27_0 x0) (g27_1 x0) (g27_2 x0) (g27_3 x0) + IntKind.wrap IntKind.i64 ((2 : Int) * g32_0 (g27_0 x0))) - g27_2 x0) + g27_3 x0) + g27_1 x0)) (g32_0 (g27_0 x0)) != (0 : Int) then true else !decide (g33_0 (g27_0 x0) (g28_0 (g27_0 x0) (g27_1 x0) (g27_2 x0) (g27_3 x0)) < (0 : Int)) == (IntKind.wrap IntKind.i64 ↑(BitVec.toNat (BitVec.ofInt (64 : Nat) (g28_1 (g27_0 x0) (g27_1 x0) (g27_2 x0) (g27_3 x0)) &&& BitVec.ofInt (64 : Nat) (8 : Int))) != (0 : Int)) then true else !(g28_0 (g27_0 x0) (g27_1 x0) (g27_2 x0) (g27_3 x0) == (0 : Int)) == (IntKind.wrap IntKind.i64 ↑(BitVec.toNat (BitVec.ofInt (64 : Nat) (g28_1 (g27_0 x0) (g27_1 x0) (g27_2 x0) (g27_3 x0)) &&& BitVec.ofInt (64 : Nat) (4 : Int))) != (0 : Int)) then true else IntKind.wrap IntKind.i64 ↑(BitVec.toNat (BitVec.ofInt (64 : Nat) (g28_1 (g27_0 x0) (g27_1 x0) (g27_2 x0) (g27_3 x0)) &&& BitVec.ofInt (64 : Nat) (1 : Int))) != Int.fdiv (g28_1 (g27_0 x0) (g27_1 x0) (g27_2 x0) (g27_3 x0)) (16 : Int)) && g28_2 (g27_0 x0) (g27_1 x0) (g27_2 x0) (g27_3 x0) then false else bif (bif !g30_2 (g27_0 x0) (g27_1 x0) (g28_0 (g27_0 x0) (g27_1 x0) (g27_2 x0) (g27_3 x0)) (g27_3 x0) then true else g30_0 (g27_0 x0) (g27_1 x0) (g28_0 (g27_0 x0) (g27_1 x0) (g27_2 x0) (g27_3 x0)) (g27_3 x0) != g27_2 x0) && g28_2 (g27_0 x0) (g27_1 x0) (g27_2 x0) (g27_3 x0) then false else bif bif bif !g35_2 (g158_0 x1) (g158_1 x1) == g36_2 (g158_0 x1) (g158_1 x1) then true else g35_0 (g158_0 x1) (g158_1 x1) != g36_0 (g158_0 x1) (g158_1 x1) then true else g35_1 (g158_0 x1) (g158_1 x1) != g36_1 (g158_0 x1) (g158_1 x1) then false else bif !g35_2 (g158_0 x1) (g158_1 x1) then true else Int.tmod (IntKind.wrap IntKind.i64 (g35_0 (g158_0 x1) (g158_1 x1) + g158_1 x1)) (g32_0 (g158_0 x1)) == (0 : Int)
theorem k4 (x0 : List Row) (x1 : List Row) (h : (bytesOk x0 && bytesOk x1) = true) : (bytesOk x0 && true && ((((g32_0 (g27_0 x0) != (0 : Int) && ((g32_0 (g27_0 x0) != (0 : Int) && true || Int.tmod (IntKind.wrap IntKind.i64 (IntKind.wrap IntKind.i64 (IntKind.wrap IntKind.i64 (IntKind.wrap IntKind.i64 (g28_0 (g27_0 x0) (g27_1 x0) (g27_2 x0) (g27_3 x0) + g32_0 (g27_0 x0)) - g27_2 x0) - g27_3 x0) - g27_1 x0)) (g32_0 (g27_0 x0)) != (0 : Int)) && true) && true && true || bif bif bif !decide (IntKind.wrap IntKind.i64 (IntKind.wrap IntKind.i64 (g27_2 x0 + g27_3 x0) + g27_1 x0) ≥ g32_0 (g27_0 x0)) == (IntKind.wrap IntKind.i64 ↑(BitVec.toNat (BitVec.ofInt (64 : Nat) (g28_1 (g27_0 x0) (g27_1 x0) (g27_2 x0) (g27_3 x0)) &&& BitVec.ofInt (64 : Nat) (1 : Int))) != (0 : Int)) then true else !decide (IntKind.wrap IntKind.i64 (IntKind.wrap IntKind.i64 (g27_2 x0 - g27_3 x0) - g27_1 x0) < (0 : Int)) == (IntKind.wrap IntKind.i64 ↑(BitVec.toNat (BitVec.ofInt (64 : Nat) (g30_1 (g27_0 x0) (g27_1 x0) (g27_2 x0) (g27_3 x0)) &&& BitVec.ofInt (64 : Nat) (1 : Int))) != (0 : Int)) then true else !(IntKind.wrap IntKind.i64 (IntKind.wrap IntKind.i64 (g33_0 (g27_0 x0) (g27_2 x0) + g33_0 (g27_0 x0) (g27_3 x0)) + g27_1 x0) != g33_0 (g27_0 x0) (g28_0 (g27_0 x0) (g27_1 x0) (g27_2 x0) (g27_3 x0))) == (IntKind.wrap IntKind.i64 ↑(BitVec.toNat (BitVec.ofInt (64 : Nat) (g28_1 (g27_0 x0) (g27_1 x0) (g27_2 x0) (g27_3 x0)) &&& BitVec.ofInt (64 : Nat) (2 : Int))) != (0 : Int)) then true else !(IntKind.wrap IntKind.i64 (IntKind.wrap IntKind.i64 (g33_0 (g27_0 x0) (g27_2 x0) - g33_0 (g27_0 x0) (g27_3 x0)) - g27_1 x0) != g33_0 (g27_0 x0) (g30_0 (g27_0 x0) (g27_1 x0) (g27_2 x0) (g27_3 x0))) == (IntKind.wrap IntKind.i64 ↑(BitVec.toNat (BitVec.ofInt (64 : Nat) (g30_1 (g27_0 x0) (g27_1 x0) (g27_2 x0) (g27_3 x0)) &&& BitVec.ofInt (64 : Nat) (2 : Int))) != (0 : Int))) || bif bif bif !g151_0 (g27_0 x0) (g27_2 x0) then true else !g151_0 (g27_0 x0) (g27_3 x0) then true else !g151_0 (g27_0 x0) (g28_0 (g27_0 x0) (g27_1 x0) (g27_2 x0) (g27_3 x0)) then true else !g151_0 (g27_0 x0) (g30_0 (g27_0 x0) (g27_1 x0) (g27_2 x0) (g27_3 x0))) || !g28_2 (g27_0 x0) (g27_1 x0) (g27_2 x0) (g27_3 x0)) && true && (bytesOk x1 && true && ((g32_0 (g158_0 x1) != (0 : Int) && true || !g35_2 (g158_0 x1) (g158_1 x1)) && true && true || bif bif !g35_2 (g158_0 x1) (g158_1 x1) == g36_2 (g158_0 x1) (g158_1 x1) then true else g35_0 (g158_0 x1) (g158_1 x1) != g36_0 (g158_0 x1) (g158_1 x1) then true else g35_1 (g158_0 x1) (g158_1 x1) != g36_1 (g158_0 x1) (g158_1 x1)) || (bif !g30_2 (g27_0 x0) (g27_1 x0) (g28_0 (g27_0 x0) (g27_1 x0) (g27_2 x0) (g27_3 x0)) (g27_3 x0) then true else g30_0 (g27_0 x0) (g27_1 x0) (g28_0 (g27_0 x0) (g27_1 x0) (g27_2 x0) (g27_3 x0)) (g27_3 x0) != g27_2 x0) && g28_2 (g27_0 x0) (g27_1 x0) (g27_2 x0) (g27_3 x0) || (bif bif bif bif Int.tmod (IntKind.wrap IntKind.i64 (IntKind.wrap IntKind.i64 (IntKind.wrap IntKind.i64 (IntKind.wrap IntKind.i64 (g28_0 (g27_0 x0) (g27_1 x0) (g27_2 x0) (g27_3 x0) + g32_0 (g27_0 x0)) - g27_2 x0) - g27_3 x0) - g27_1 x0)) (g32_0 (g27_0 x0)) != (0 : Int) then true else Int.tmod (IntKind.wrap IntKind.i64 (IntKind.wrap IntKind.i64 (IntKind.wrap IntKind.i64 (IntKind.wrap IntKind.i64 (g30_0 (g27_0 x0) (g27_1 x0) (g27_2 x0) (g27_3 x0) + IntKind.wrap IntKind.i64 ((2 : Int) * g32_0 (g27_0 x0))) - g27_2 x0) + g27_3 x0) + g27_1 x0)) (g32_0 (g27_0 x0)) != (0 : Int) then true else !decide (g33_0 (g27_0 x0) (g28_0 (g27_0 x0) (g27_1 x0) (g27_2 x0) (g27_3 x0)) < (0 : Int)) == (IntKind.wrap IntKind.i64 ↑(BitVec.toNat (BitVec.ofInt (64 : Nat) (g28_1 (g27_0 x0) (g27_1 x0) (g27_2 x0) (g27_3 x0)) &&& BitVec.ofInt (64 : Nat) (8 : Int))) != (0 : Int)) then true else !(g28_0 (g27_0 x0) (g27_1 x0) (g27_2 x0) (g27_3 x0) == (0 : Int)) == (IntKind.wrap IntKind.i64 ↑(BitVec.toNat (BitVec.ofInt (64 : Nat) (g28_1 (g27_0 x0) (g27_1 x0) (g27_2 x0) (g27_3 x0)) &&& BitVec.ofInt (64 : Nat) (4 : Int))) != (0 : Int)) then true else IntKind.wrap IntKind.i64 ↑(BitVec.toNat (BitVec.ofInt (64 : Nat) (g28_1 (g27_0 x0) (g27_1 x0) (g27_2 x0) (g27_3 x0)) &&& BitVec.ofInt (64 : Nat) (1 : Int))) != Int.fdiv (g28_1 (g27_0 x0) (g27_1 x0) (g27_2 x0) (g27_3 x0)) (16 : Int)) && g28_2 (g27_0 x0) (g27_1 x0) (g27_2 x0) (g27_3 x0) || (bif bif bif !decide (IntKind.wrap IntKind.i64 (IntKind.wrap IntKind.i64 (g27_2 x0 + g27_3 x0) + g27_1 x0) ≥ g32_0 (g27_0 x0)) == (IntKind.wrap IntKind.i64 ↑(BitVec.toNat (BitVec.ofInt (64 : Nat) (g28_1 (g27_0 x0) (g27_1 x0) (g27_2 x0) (g27_3 x0)) &&& BitVec.ofInt (64 : Nat) (1 : Int))) != (0 : Int)) then true else !decide (IntKind.wrap IntKind.i64 (IntKind.wrap IntKind.i64 (g27_2 x0 - g27_3 x0) - g27_1 x0) < (0 : Int)) == (IntKind.wrap IntKind.i64 ↑(BitVec.toNat (BitVec.ofInt (64 : Nat) (g30_1 (g27_0 x0) (g27_1 x0) (g27_2 x0) (g27_3 x0)) &&& BitVec.ofInt (64 : Nat) (1 : Int))) != (0 : Int)) then true else !(IntKind.wrap IntKind.i64 (IntKind.wrap IntKind.i64 (g33_0 (g27_0 x0) (g27_2 x0) + g33_0 (g27_0 x0) (g27_3 x0)) + g27_1 x0) != g33_0 (g27_0 x0) (g28_0 (g27_0 x0) (g27_1 x0) (g27_2 x0) (g27_3 x0))) == (IntKind.wrap IntKind.i64 ↑(BitVec.toNat (BitVec.ofInt (64 : Nat) (g28_1 (g27_0 x0) (g27_1 x0) (g27_2 x0) (g27_3 x0)) &&& BitVec.ofInt (64 : Nat) (2 : Int))) != (0 : Int)) then true else !(IntKind.wrap IntKind.i64 (IntKind.wrap IntKind.i64 (g33_0 (g27_0 x0) (g27_2 x0) - g33_0 (g27_0 x0) (g27_3 x0)) - g27_1 x0) != g33_0 (g27_0 x0) (g30_0 (g27_0 x0) (g27_1 x0) (g27_2 x0) (g27_3 x0))) == (IntKind.wrap IntKind.i64 ↑(BitVec.toNat (BitVec.ofInt (64 : Nat) (g30_1 (g27_0 x0) (g27_1 x0) (g27_2 x0) (g27_3 x0)) &&& BitVec.ofInt (64 : Nat) (2 : Int))) != (0 : Int))) && g28_2 (g27_0 x0) (g27_1 x0) (g27_2 x0) (g27_3 x0) || (bif bif bif !g151_0 (g27_0 x0) (g27_2 x0) then true else !g151_0 (g27_0 x0) (g27_3 x0) then true else !g151_0 (g27_0 x0) (g28_0 (g27_0 x0) (g27_1 x0) (g27_2 x0) (g27_3 x0)) then true else !g151_0 (g27_0 x0) (g30_0 (g27_0 x0) (g27_1 x0) (g27_2 x0) (g27_3 x0))) && g28_2 (g27_0 x0) (g27_1 x0) (g27_2 x0) (g27_3 x0)) || bif bif bif bif bif bif !g28_2 (g27_0 x0) (g27_1 x0) (g27_2 x0) (g27_3 x0) == g29_2 (g27_0 x0) (g27_1 x0) (g27_2 x0) (g27_3 x0) then true else g28_0 (g27_0 x0) (g27_1 x0) (g27_2 x0) (g27_3 x0) != g29_0 (g27_0 x0) (g27_1 x0) (g27_2 x0) (g27_3 x0) then true else g28_1 (g27_0 x0) (g27_1 x0) (g27_2 x0) (g27_3 x0) != g29_1 (g27_0 x0) (g27_1 x0) (g27_2 x0) (g27_3 x0) then true else !g30_2 (g27_0 x0) (g27_1 x0) (g27_2 x0) (g27_3 x0) == g31_2 (g27_0 x0) (g27_1 x0) (g27_2 x0) (g27_3 x0) then true else g30_0 (g27_0 x0) (g27_1 x0) (g27_2 x0) (g27_3 x0) != g31_0 (g27_0 x0) (g27_1 x0) (g27_2 x0) (g27_3 x0) then true else g30_1 (g27_0 x0) (g27_1 x0) (g27_2 x0) (g27_3 x0) != g31_1 (g27_0 x0) (g27_1 x0) (g27_2 x0) (g27_3 x0) then true else !g28_2 (g27_0 x0) (g27_1 x0) (g27_2 x0) (g27_3 x0) == g30_2 (g27_0 x0) (g27_1 x0) (g27_2 x0) (g27_3 x0)) || decide (IntKind.wrap IntKind.i64 (↑(List.length x0) + ↑(List.length x1)) > (1048576 : Int))) = true := by
  obtain ⟨h0, h⟩ := Bool.and_eq_true_iff.1 h
  have h1 := h
  simp only [h0, h1, Bool.and_true, Bool.true_and, Bool.or_true, Bool.true_or, Bool.or_false, Bool.false_or, Bool.and_self, Bool.cond_self, Bool.not_true, Bool.not_false, Bool.false_and, Bool.and_false, u64_dec, top_ne]
theorem e4 (x0 : List Row) (x1 : List Row) : fnT Q36 [] [] 0 F4 [.one (.imm true 1 x0), .one (.imm true 1 x1)] [] = some ((SV.one (T.lit (Value.bool (g4_0 x0 x1))), []), bytesOk x0 && true && ((((g32_0 (g27_0 x0) != (0 : Int) && ((g32_0 (g27_0 x0) != (0 : Int) && true || Int.tmod (IntKind.wrap IntKind.i64 (IntKind.wrap IntKind.i64 (IntKind.wrap IntKind.i64 (IntKind.wrap IntKind.i64 (g28_0 (g27_0 x0) (g27_1 x0) (g27_2 x0) (g27_3 x0) + g32_0 (g27_0 x0)) - g27_2 x0) - g27_3 x0) - g27_1 x0)) (g32_0 (g27_0 x0)) != (0 : Int)) && true) && true && true || bif bif bif !decide (IntKind.wrap IntKind.i64 (IntKind.wrap IntKind.i64 (g27_2 x0 + g27_3 x0) + g27_1 x0) ≥ g32_0 (g27_0 x0)) == (IntKind.wrap IntKind.i64 ↑(BitVec.toNat (BitVec.ofInt (64 : Nat) (g28_1 (g27_0 x0) (g27_1 x0) (g27_2 x0) (g27_3 x0)) &&& BitVec.ofInt (64 : Nat) (1 : Int))) != (0 : Int)) then true else !decide (IntKind.wrap IntKind.i64 (IntKind.wrap IntKind.i64 (g27_2 x0 - g27_3 x0) - g27_1 x0) < (0 : Int)) == (IntKind.wrap IntKind.i64 ↑(BitVec.toNat (BitVec.ofInt (64 : Nat) (g30_1 (g27_0 x0) (g27_1 x0) (g27_2 x0) (g27_3 x0)) &&& BitVec.ofInt (64 : Nat) (1 : Int))) != (0 : Int)) then true else !(IntKind.wrap IntKind.i64 (IntKind.wrap IntKind.i64 (g33_0 (g27_0 x0) (g27_2 x0) + g33_0 (g27_0 x0) (g27_3 x0)) + g27_1 x0) != g33_0 (g27_0 x0) (g28_0 (g27_0 x0) (g27_1 x0) (g27_2 x0) (g27_3 x0))) == (IntKind.wrap IntKind.i64 ↑(BitVec.toNat (BitVec.ofInt (64 : Nat) (g28_1 (g27_0 x0) (g27_1 x0) (g27_2 x0) (g27_3 x0)) &&& BitVec.ofInt (64 : Nat) (2 : Int))) != (0 : Int)) then true else !(IntKind.wrap IntKind.i64 (IntKind.wrap IntKind.i64 (g33_0 (g27_0 x0) (g27_2 x0) - g33_0 (g27_0 x0) (g27_3 x0)) - g27_1 x0) != g33_0 (g27_0 x0) (g30_0 (g27_0 x0) (g27_1 x0) (g27_2 x0) (g27_3 x0))) == (IntKind.wrap IntKind.i64 ↑(BitVec.toNat (BitVec.ofInt (64 : Nat) (g30_1 (g27_0 x0) (g27_1 x0) (g27_2 x0) (g27_3 x0)) &&& BitVec.ofInt (64 : Nat) (2 : Int))) != (0 : Int))) || bif bif bif !g151_0 (g27_0 x0) (g27_2 x0) then true else !g151_0 (g27_0 x0) (g27_3 x0) then true else !g151_0 (g27_0 x0) (g28_0 (g27_0 x0) (g27_1 x0) (g27_2 x0) (g27_3 x0)) then true else !g151_0 (g27_0 x0) (g30_0 (g27_0 x0) (g27_1 x0) (g27_2 x0) (g27_3 x0))) || !g28_2 (g27_0 x0) (g27_1 x0) (g27_2 x0) (g27_3 x0)) && true && (bytesOk x1 && true && ((g32_0 (g158_0 x1) != (0 : Int) && true || !g35_2 (g158_0 x1) (g158_1 x1)) && true && true || bif bif !g35_2 (g158_0 x1) (g158_1 x1) == g36_2 (g158_0 x1) (g158_1 x1) then true else g35_0 (g158_0 x1) (g158_1 x1) != g36_0 (g158_0 x1) (g158_1 x1) then true else g35_1 (g158_0 x1) (g158_1 x1) != g36_1 (g158_0 x1) (g158_1 x1)) || (bif !g30_2 (g27_0 x0) (g27_1 x0) (g28_0 (g27_0 x0) (g27_1 x0) (g27_2 x0) (g27_3 x0)) (g27_3 x0) then true else g30_0 (g27_0 x0) (g27_1 x0) (g28_0 (g27_0 x0) (g27_1 x0) (g27_2 x0) (g27_3 x0)) (g27_3 x0) != g27_2 x0) && g28_2 (g27_0 x0) (g27_1 x0) (g27_2 x0) (g27_3 x0) || (bif bif bif bif Int.tmod (IntKind.wrap IntKind.i64 (IntKind.wrap IntKind.i64 (IntKind.wrap IntKind.i64 (IntKind.wrap IntKind.i64 (g28_0 (g27_0 x0) (g27_1 x0) (g27_2 x0) (g27_3 x0) + g32_0 (g27_0 x0)) - g27_2 x0) - g27_3 x0) - g27_1 x0)) (g32_0 (g27_0 x0)) != (0 : Int) then true else Int.tmod (IntKind.wrap IntKind.i64 (IntKind.wrap IntKind.i64 (IntKind.wrap IntKind.i64 (IntKind.wrap IntKind.i64 (g30_0 (g27_0 x0) (g27_1 x0) (g27_2 x0) (g27_3 x0) + IntKind.wrap IntKind.i64 ((2 : Int) * g32_0 (g27_0 x0))) - g27_2 x0) + g27_3 x0) + g27_1 x0)) (g32_0 (g27_0 x0)) != (0 : Int) then true else !decide (g33_0 (g27_0 x0) (g28_0 (g27_0 x0) (g27_1 x0) (g27_2 x0) (g27_3 x0)) < (0 : Int)) == (IntKind.wrap IntKind.i64 ↑(BitVec.toNat (BitVec.ofInt (64 : Nat) (g28_1 (g27_0 x0) (g27_1 x0) (g27_2 x0) (g27_3 x0)) &&& BitVec.ofInt (64 : Nat) (8 : Int))) != (0 : Int)) then true else !(g28_0 (g27_0 x0) (g27_1 x0) (g27_2 x0) (g27_3 x0) == (0 : Int)) == (IntKind.wrap IntKind.i64 ↑(BitVec.toNat (BitVec.ofInt (64 : Nat) (g28_1 (g27_0 x0) (g27_1 x0) (g27_2 x0) (g27_3 x0)) &&& BitVec.ofInt (64 : Nat) (4 : Int))) != (0 : Int)) then true else IntKind.wrap IntKind.i64 ↑(BitVec.toNat (BitVec.ofInt (64 : Nat) (g28_1 (g27_0 x0) (g27_1 x0) (g27_2 x0) (g27_3 x0)) &&& BitVec.ofInt (64 : Nat) (1 : Int))) != Int.fdiv (g28_1 (g27_0 x0) (g27_1 x0) (g27_2 x0) (g27_3 x0)) (16 : Int)) && g28_2 (g27_0 x0) (g27_1 x0) (g27_2 x0) (g27_3 x0) || (bif bif bif !decide (IntKind.wrap IntKind.i64 (IntKind.wrap IntKind.i64 (g27_2 x0 + g27_3 x0) + g27_1 x0) ≥ g32_0 (g27_0 x0)) == (IntKind.wrap IntKind.i64 ↑(BitVec.toNat (BitVec.ofInt (64 : Nat) (g28_1 (g27_0 x0) (g27_1 x0) (g27_2 x0) (g27_3 x0)) &&& BitVec.ofInt (64 : Nat) (1 : Int))) != (0 : Int)) then true else !decide (IntKind.wrap IntKind.i64 (IntKind.wrap IntKind.i64 (g27_2 x0 - g27_3 x0) - g27_1 x0) < (0 : Int)) == (IntKind.wrap IntKind.i64 ↑(BitVec.toNat (BitVec.ofInt (64 : Nat) (g30_1 (g27_0 x0) (g27_1 x0) (g27_2 x0) (g27_3 x0)) &&& BitVec.ofInt (64 : Nat) (1 : Int))) != (0 : Int)) then true else !(IntKind.wrap IntKind.i64 (IntKind.wrap IntKind.i64 (g33_0 (g27_0 x0) (g27_2 x0) + g33_0 (g27_0 x0) (g27_3 x0)) + g27_1 x0) != g33_0 (g27_0 x0) (g28_0 (g27_0 x0) (g27_1 x0) (g27_2 x0) (g27_3 x0))) == (IntKind.wrap IntKind.i64 ↑(BitVec.toNat (BitVec.ofInt (64 : Nat) (g28_1 (g27_0 x0) (g27_1 x0) (g27_2 x0) (g27_3 x0)) &&& BitVec.ofInt (64 : Nat) (2 : Int))) != (0 : Int)) then true else !(IntKind.wrap IntKind.i64 (IntKind.wrap IntKind.i64 (g33_0 (g27_0 x0) (g27_2 x0) - g33_0 (g27_0 x0) (g27_3 x0)) - g27_1 x0) != g33_0 (g27_0 x0) (g30_0 (g27_0 x0) (g27_1 x0) (g27_2 x0) (g27_3 x0))) == (IntKind.wrap IntKind.i64 ↑(BitVec.toNat (BitVec.ofInt (64 : Nat) (g30_1 (g27_0 x0) (g27_1 x0) (g27_2 x0) (g27_3 x0)) &&& BitVec.ofInt (64 : Nat) (2 : Int))) != (0 : Int))) && g28_2 (g27_0 x0) (g27_1 x0) (g27_2 x0) (g27_3 x0) || (bif bif bif !g151_0 (g27_0 x0) (g27_2 x0) then true else !g151_0 (g27_0 x0) (g27_3 x0) then true else !g151_0 (g27_0 x0) (g28_0 (g27_0 x0) (g27_1 x0) (g27_2 x0) (g27_3 x0)) then true else !g151_0 (g27_0 x0) (g30_0 (g27_0 x0) (g27_1 x0) (g27_2 x0) (g27_3 x0))) && g28_2 (g27_0 x0) (g27_1 x0) (g27_2 x0) (g27_3 x0)) || bif bif bif bif bif bif !g28_2 (g27_0 x0) (g27_1 x0) (g27_2 x0) (g27_3 x0) == g29_2 (g27_0 x0) (g27_1 x0) (g27_2 x0) (g27_3 x0) then true else g28_0 (g27_0 x0) (g27_1 x0) (g27_2 x0) (g27_3 x0) != g29_0 (g27_0 x0) (g27_1 x0) (g27_2 x0) (g27_3 x0) then true else g28_1 (g27_0 x0) (g27_1 x0) (g27_2 x0) (g27_3 x0) != g29_1 (g27_0 x0) (g27_1 x0) (g27_2 x0) (g27_3 x0) then true else !g30_2 (g27_0 x0) (g27_1 x0) (g27_2 x0) (g27_3 x0) == g31_2 (g27_0 x0) (g27_1 x0) (g27_2 x0) (g27_3 x0) then true else g30_0 (g27_0 x0) (g27_1 x0) (g27_2 x0) (g27_3 x0) != g31_0 (g27_0 x0) (g27_1 x0) (g27_2 x0) (g27_3 x0) then true else g30_1 (g27_0 x0) (g27_1 x0) (g27_2 x0) (g27_3 x0) != g31_1 (g27_0 x0) (g27_1 x0) (g27_2 x0) (g27_3 x0) then true else !g28_2 (g27_0 x0) (g27_1 x0) (g27_2 x0) (g27_3 x0) == g30_2 (g27_0 x0) (g27_1 x0) (g27_2 x0) (g27_3 x0)) || decide (IntKind.wrap IntKind.i64 (↑(List.length x0) + ↑(List.length x1)) > (1048576 : Int))) := by kernel_rfl
def q4 : List SV → List Blk → Option ((SV × List Blk) × Bool)
  | [.one (.imm true 1 x0), .one (.imm true 1 x1)], [] => some ((SV.one (T.lit (Value.bool (g4_0 x0 x1))), []), bytesOk x0 && bytesOk x1)
  | _, _ => none
theorem t4 (args : List SV) (hp : List Blk) (r : SV × List Blk) (h : q4 args hp = some (r, true)) : R 4 args hp = some r := by
  unfold q4 at h
  split at h
  · rename_i x0 x1; exact R_fn at4 0 (fnT_run Q36_ok (okTrans (e4 x0 x1) (k4 x0 x1) h))
  · simp at h
noncomputable def Q4 : Qt := qcons 4 q4 Q36
theorem Q4_ok : QOk R Q4 := qcons_ok t4 Q36_ok
end Go.Proofs.YtckjibiolfapiaaSums
