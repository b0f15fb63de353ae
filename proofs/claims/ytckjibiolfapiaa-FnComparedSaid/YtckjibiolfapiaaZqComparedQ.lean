/- What each function gives, and that it does. Printed. -/
import Derived.Test.YtckjibiolfapiaaZqTabCompared
import Derived.Test.YtckjibiolfapiaaZqCur
import Derived.KernelRfl
import Derived.Test.YtckjibiolfapiaaZqComparedR
set_option linter.unusedVariables false
set_option linter.unusedSimpArgs false
namespace Go.Proofs.YtckjibiolfapiaaCompared
open Go Go.Zq
set_option maxRecDepth 100000
/-! impl.within -/
def g142_0 (x0 : Int) (x1 : Int) (x2 : Int) : Bool := bif decide (x0 ≥ x1) then decide (x0 ≤ x2) else false
theorem e142 (x0 : Int) (x1 : Int) (x2 : Int) : fnT qnil [] [] 0 F142 [.one (.lit (.int .i64 x0)), .one (.lit (.int .i64 x1)), .one (.lit (.int .i64 x2))] [] = some ((SV.one (T.lit (Value.bool (g142_0 x0 x1 x2))), []), true) := by kernel_rfl
def q142 : List SV → List Blk → Option ((SV × List Blk) × Bool)
  | [.one (.lit (.int .i64 x0)), .one (.lit (.int .i64 x1)), .one (.lit (.int .i64 x2))], [] => some ((SV.one (T.lit (Value.bool (g142_0 x0 x1 x2))), []), true)
  | _, _ => none
theorem t142 (args : List SV) (hp : List Blk) (r : SV × List Blk) (h : q142 args hp = some (r, true)) : R 142 args hp = some r := by
  unfold q142 at h
  split at h
  · rename_i x0 x1 x2; exact R_fn at142 0 (fnT_run qnil_ok ((e142 x0 x1 x2).trans h))
  · simp at h
noncomputable def Q142 : Qt := qcons 142 q142 qnil
theorem Q142_ok : QOk R Q142 := qcons_ok t142 qnil_ok
/-! impl.isSize -/
def g198_0 (x0 : Int) : Bool := bif x0 == (1 : Int) then true else x0 == (2 : Int)
theorem e198 (x0 : Int) : fnT Q142 [] [] 0 F198 [.one (.lit (.int .i64 x0))] [] = some ((SV.one (T.lit (Value.bool (g198_0 x0))), []), true) := by kernel_rfl
def q198 : List SV → List Blk → Option ((SV × List Blk) × Bool)
  | [.one (.lit (.int .i64 x0))], [] => some ((SV.one (T.lit (Value.bool (g198_0 x0))), []), true)
  | _, _ => none
theorem t198 (args : List SV) (hp : List Blk) (r : SV × List Blk) (h : q198 args hp = some (r, true)) : R 198 args hp = some r := by
  unfold q198 at h
  split at h
  · rename_i x0; exact R_fn at198 0 (fnT_run Q142_ok ((e198 x0).trans h))
  · simp at h
noncomputable def Q198 : Qt := qcons 198 q198 Q142
theorem Q198_ok : QOk R Q198 := qcons_ok t198 Q142_ok
theorem size_iff {s : Int} : g198_0 s = true ↔ s = 1 ∨ s = 2 := by
  unfold g198_0
  cases h : s == 1 <;> simp_all
theorem size_pos {s : Int} (h : g198_0 s = true) : 0 ≤ IntKind.wrap IntKind.i64 (8 * s) := by
  rcases size_iff.1 h with rfl | rfl <;> decide
/-! impl.limitOf -/
def g218_0 (x0 : Int) : Int := IntKind.wrap IntKind.i64 ((1 : Int) * (2 : Int) ^ min (Int.toNat (IntKind.wrap IntKind.i64 ((8 : Int) * x0))) (64 : Nat))
theorem k218 (x0 : Int) (h : (decide ((0 : Int) ≤ IntKind.wrap IntKind.i64 ((8 : Int) * x0))) = true) : (decide ((0 : Int) ≤ IntKind.wrap IntKind.i64 ((8 : Int) * x0)) && true && true && true) = true := by
  have h0 := h
  simp only [h0, Bool.and_true, Bool.true_and, Bool.or_true, Bool.true_or, Bool.or_false, Bool.false_or, Bool.and_self, Bool.cond_self, Bool.not_true, Bool.not_false, Bool.false_and, Bool.and_false, u64_dec, Nat.zero_add, Nat.le_refl, decide_true, eq_self, List.drop_zero, List.take_length, Bool.not_not, bif_tf, bif_ft]
theorem e218 (x0 : Int) : fnT Q198 [] [] 0 F218 [.one (.lit (.int .i64 x0))] [] = some ((SV.one (T.lit (Value.int IntKind.i64 (g218_0 x0))), []), decide ((0 : Int) ≤ IntKind.wrap IntKind.i64 ((8 : Int) * x0)) && true && true && true) := by kernel_rfl
def q218 : List SV → List Blk → Option ((SV × List Blk) × Bool)
  | [.one (.lit (.int .i64 x0))], [] => some ((SV.one (T.lit (Value.int IntKind.i64 (g218_0 x0))), []), decide ((0 : Int) ≤ IntKind.wrap IntKind.i64 ((8 : Int) * x0)))
  | _, _ => none
theorem t218 (args : List SV) (hp : List Blk) (r : SV × List Blk) (h : q218 args hp = some (r, true)) : R 218 args hp = some r := by
  unfold q218 at h
  split at h
  · rename_i x0; exact R_fn at218 0 (fnT_run Q198_ok (okTrans (e218 x0) (k218 x0) h))
  · simp at h
noncomputable def Q218 : Qt := qcons 218 q218 Q198
theorem Q218_ok : QOk R Q218 := qcons_ok t218 Q198_ok
/-! impl.isValue -/
def g151_0 (x0 : Int) (x1 : Int) : Bool := bif g198_0 x0 then g142_0 x1 (0 : Int) (IntKind.wrap IntKind.i64 (g218_0 x0 - (1 : Int))) else false
theorem k151 (x0 : Int) (x1 : Int) (h : (true) = true) : ((decide ((0 : Int) ≤ IntKind.wrap IntKind.i64 ((8 : Int) * x0)) && true || !g198_0 x0) && true && true && true) = true := by
  cases hs : g198_0 x0
  · simp
  · simp [size_pos hs]
theorem e151 (x0 : Int) (x1 : Int) : fnT Q218 [] [] 0 F151 [.one (.lit (.int .i64 x0)), .one (.lit (.int .i64 x1))] [] = some ((SV.one (T.lit (Value.bool (g151_0 x0 x1))), []), (decide ((0 : Int) ≤ IntKind.wrap IntKind.i64 ((8 : Int) * x0)) && true || !g198_0 x0) && true && true && true) := by kernel_rfl
def q151 : List SV → List Blk → Option ((SV × List Blk) × Bool)
  | [.one (.lit (.int .i64 x0)), .one (.lit (.int .i64 x1))], [] => some ((SV.one (T.lit (Value.bool (g151_0 x0 x1))), []), true)
  | _, _ => none
theorem t151 (args : List SV) (hp : List Blk) (r : SV × List Blk) (h : q151 args hp = some (r, true)) : R 151 args hp = some r := by
  unfold q151 at h
  split at h
  · rename_i x0 x1; exact R_fn at151 0 (fnT_run Q218_ok (okTrans (e151 x0 x1) (k151 x0 x1) h))
  · simp at h
noncomputable def Q151 : Qt := qcons 151 q151 Q218
theorem Q151_ok : QOk R Q151 := qcons_ok t151 Q218_ok
/-! impl.signedOf -/
def g157_0 (x0 : Int) (x1 : Int) : Int := bif decide (x1 ≥ IntKind.wrap IntKind.i64 (Int.tdiv (g218_0 x0) (2 : Int))) then IntKind.wrap IntKind.i64 (x1 - g218_0 x0) else x1
theorem k157 (x0 : Int) (x1 : Int) (h : (decide ((0 : Int) ≤ IntKind.wrap IntKind.i64 ((8 : Int) * x0))) = true) : (decide ((0 : Int) ≤ IntKind.wrap IntKind.i64 ((8 : Int) * x0)) && true && ((decide ((0 : Int) ≤ IntKind.wrap IntKind.i64 ((8 : Int) * x0)) && true && true || !decide (x1 ≥ IntKind.wrap IntKind.i64 (Int.tdiv (g218_0 x0) (2 : Int)))) && true) && true && true) = true := by
  have h0 := h
  simp only [h0, Bool.and_true, Bool.true_and, Bool.or_true, Bool.true_or, Bool.or_false, Bool.false_or, Bool.and_self, Bool.cond_self, Bool.not_true, Bool.not_false, Bool.false_and, Bool.and_false, u64_dec, Nat.zero_add, Nat.le_refl, decide_true, eq_self, List.drop_zero, List.take_length, Bool.not_not, bif_tf, bif_ft]
theorem e157 (x0 : Int) (x1 : Int) : fnT Q151 [] [] 0 F157 [.one (.lit (.int .i64 x0)), .one (.lit (.int .i64 x1))] [] = some ((SV.one (T.lit (Value.int IntKind.i64 (g157_0 x0 x1))), []), decide ((0 : Int) ≤ IntKind.wrap IntKind.i64 ((8 : Int) * x0)) && true && ((decide ((0 : Int) ≤ IntKind.wrap IntKind.i64 ((8 : Int) * x0)) && true && true || !decide (x1 ≥ IntKind.wrap IntKind.i64 (Int.tdiv (g218_0 x0) (2 : Int)))) && true) && true && true) := by kernel_rfl
def q157 : List SV → List Blk → Option ((SV × List Blk) × Bool)
  | [.one (.lit (.int .i64 x0)), .one (.lit (.int .i64 x1))], [] => some ((SV.one (T.lit (Value.int IntKind.i64 (g157_0 x0 x1))), []), decide ((0 : Int) ≤ IntKind.wrap IntKind.i64 ((8 : Int) * x0)))
  | _, _ => none
theorem t157 (args : List SV) (hp : List Blk) (r : SV × List Blk) (h : q157 args hp = some (r, true)) : R 157 args hp = some r := by
  unfold q157 at h
  split at h
  · rename_i x0 x1; exact R_fn at157 0 (fnT_run Q151_ok (okTrans (e157 x0 x1) (k157 x0 x1) h))
  · simp at h
noncomputable def Q157 : Qt := qcons 157 q157 Q151
theorem Q157_ok : QOk R Q157 := qcons_ok t157 Q151_ok
/-! impl.SignedOf -/
def g33_0 (x0 : Int) (x1 : Int) : Int := bif !g151_0 x0 x1 then (0 : Int) else g157_0 x0 x1
def r33_1 (x0 : Int) (x1 : Int) : Bool := bif !g151_0 x0 x1 then false else true
theorem c33_1 (x0 : Int) (x1 : Int) : r33_1 x0 x1 = g151_0 x0 x1 := by simp only [r33_1, Bool.cond_self, bif_tf, bif_ft, Bool.not_not, List.drop_zero, List.take_length]
theorem k33 (x0 : Int) (x1 : Int) (h : (true) = true) : ((decide ((0 : Int) ≤ IntKind.wrap IntKind.i64 ((8 : Int) * x0)) && true && true || !g151_0 x0 x1) && true) = true := by
  cases hs : g198_0 x0
  · simp [g151_0, hs]
  · simp [size_pos hs]
theorem d33 (x0 : Int) (x1 : Int) : fnT Q157 [] [] 0 F33 [.one (.lit (.int .i64 x0)), .one (.lit (.int .i64 x1))] [] = some ((SV.tup [SV.one (T.lit (Value.int IntKind.i64 (g33_0 x0 x1))), SV.one (T.lit (Value.bool (r33_1 x0 x1)))], []), (decide ((0 : Int) ≤ IntKind.wrap IntKind.i64 ((8 : Int) * x0)) && true && true || !g151_0 x0 x1) && true) := by kernel_rfl
theorem e33 (x0 : Int) (x1 : Int) : fnT Q157 [] [] 0 F33 [.one (.lit (.int .i64 x0)), .one (.lit (.int .i64 x1))] [] = some ((SV.tup [SV.one (T.lit (Value.int IntKind.i64 (g33_0 x0 x1))), SV.one (T.lit (Value.bool (g151_0 x0 x1)))], []), (decide ((0 : Int) ≤ IntKind.wrap IntKind.i64 ((8 : Int) * x0)) && true && true || !g151_0 x0 x1) && true) := by rw [d33, c33_1]
def q33 : List SV → List Blk → Option ((SV × List Blk) × Bool)
  | [.one (.lit (.int .i64 x0)), .one (.lit (.int .i64 x1))], [] => some ((SV.tup [SV.one (T.lit (Value.int IntKind.i64 (g33_0 x0 x1))), SV.one (T.lit (Value.bool (g151_0 x0 x1)))], []), true)
  | _, _ => none
theorem t33 (args : List SV) (hp : List Blk) (r : SV × List Blk) (h : q33 args hp = some (r, true)) : R 33 args hp = some r := by
  unfold q33 at h
  split at h
  · rename_i x0 x1; exact R_fn at33 0 (fnT_run Q157_ok (okTrans (e33 x0 x1) (k33 x0 x1) h))
  · simp at h
noncomputable def Q33 : Qt := qcons 33 q33 Q157
theorem Q33_ok : QOk R Q33 := qcons_ok t33 Q157_ok
/-! (*spec.l1Cur).next -/
theorem e217 (x0_0 : List Row) (x0_1 : Int) (x0_2 : Int) : fnT qnil [(7, [.int .i64]), (11, [.imm 1]), (17, [.imm 1]), (21, [.int .i64]), (22, [.int .u8]), (23, [.int .u8]), (28, [.int .i64]), (36, [.int .u64]), (47, [.int .i64]), (51, [.imm 1]), (58, [.int .u64])] [] 0 F217 [.one (.ptr 0 0 0)] [.box [.imm true 1 x0_0, .lit (.int .i64 x0_1), .lit (.int .u64 x0_2)]] = some ((SV.one (T.lit (Value.int IntKind.i64 (bif decide (IntKind.wrap IntKind.i64 (x0_1 + (1 : Int)) ≤ ↑(List.length x0_0)) then bif decide (x0_1 < ↑(List.length x0_0)) then IntKind.wrap IntKind.i64 (intAt x0_0 (Int.toNat x0_1) (0 : Nat)) else (0 : Int) else farOf (seedOf x0_2 (bif decide (x0_1 < ↑(List.length x0_0)) then IntKind.wrap IntKind.i64 (intAt x0_0 (Int.toNat x0_1) (0 : Nat)) else (0 : Int)))))),
      [Blk.box [T.imm true (1 : Nat) (bif decide (IntKind.wrap IntKind.i64 (x0_1 + (1 : Int)) ≤ ↑(List.length x0_0)) then x0_0 else x0_0), T.lit (Value.int IntKind.i64 (bif decide (IntKind.wrap IntKind.i64 (x0_1 + (1 : Int)) ≤ ↑(List.length x0_0)) then IntKind.wrap IntKind.i64 (x0_1 + (1 : Int)) else IntKind.wrap IntKind.i64 (x0_1 + (1 : Int)))),
        T.lit (Value.int IntKind.u64 (bif decide (IntKind.wrap IntKind.i64 (x0_1 + (1 : Int)) ≤ ↑(List.length x0_0)) then seedOf x0_2 (bif decide (x0_1 < ↑(List.length x0_0)) then IntKind.wrap IntKind.i64 (intAt x0_0 (Int.toNat x0_1) (0 : Nat)) else (0 : Int)) else seedOf x0_2 (bif decide (x0_1 < ↑(List.length x0_0)) then IntKind.wrap IntKind.i64 (intAt x0_0 (Int.toNat x0_1) (0 : Nat)) else (0 : Int))))]]),
      (inRow [Kd.int IntKind.u8] x0_0 x0_1 && true || !decide (x0_1 < ↑(List.length x0_0))) && true && true && true) := by kernel_rfl
def q217 : List SV → List Blk → Option ((SV × List Blk) × Bool)
  | [.one (.ptr 0 0 0)], [.box [.imm true 1 x0_0, .lit (.int .i64 x0_1), .lit (.int .u64 x0_2)]] => some ((SV.one (T.lit (Value.int IntKind.i64 (nextV x0_0 x0_1 x0_2))), [Blk.box [T.imm true 1 x0_0, T.lit (Value.int IntKind.i64 (x0_1 + 1)), T.lit (Value.int IntKind.u64 (nextS x0_0 x0_1 x0_2))]]), okTo 0 x0_1 && bytesOk x0_0)
  | _, _ => none
theorem t217 (args : List SV) (hp : List Blk) (r : SV × List Blk) (h : q217 args hp = some (r, true)) : R 217 args hp = some r := by
  unfold q217 at h
  split at h
  · exact R_fn at217 0 (fnT_run qnil_ok ((e217 _ _ _).trans (next_raw h)))
  · simp at h
noncomputable def Q217 : Qt := qcons 217 q217 Q33
theorem Q217_ok : QOk R Q217 := qcons_ok t217 Q33_ok
/-! (*spec.l1Cur).pick -/
def g141_0 (x0_0 : List Row) (x0_1 : Int) (x0_2 : Int) (x1 : Int) : Int := bif decide (x1 ≤ (1 : Int)) then (0 : Int) else Int.tmod (bif decide (x1 > (200 : Int)) then IntKind.wrap IntKind.i64 (IntKind.wrap IntKind.i64 (nextV x0_0 x0_1 x0_2 * (256 : Int)) + nextV x0_0 (x0_1 + (1 : Int)) (nextS x0_0 x0_1 x0_2)) else nextV x0_0 x0_1 x0_2) x1
def r141_1 (x0_0 : List Row) (x1 : Int) : List (List T) := bif decide (x1 ≤ (1 : Int)) then x0_0 else bif decide (x1 > (200 : Int)) then x0_0 else x0_0
theorem c141_1 (x0_0 : List Row) (x1 : Int) : r141_1 x0_0 x1 = x0_0 := by simp only [r141_1, Bool.cond_self, bif_tf, bif_ft, Bool.not_not, List.drop_zero, List.take_length]
def r141_2 (x0_1 : Int) (x1 : Int) : Int := bif decide (x1 ≤ (1 : Int)) then x0_1 else bif decide (x1 > (200 : Int)) then x0_1 + (1 : Int) + (1 : Int) else x0_1 + (1 : Int)
def g141_2 (x1 : Int) : Int := bif decide (x1 ≤ (1 : Int)) then (0 : Int) else bif decide (x1 > (200 : Int)) then (1 : Int) + (1 : Int) else (1 : Int)
theorem b141_2 (x1 : Int) : bd (g141_2 x1) 2 := by
  unfold g141_2
  exact (bd_cond (u := 0) (v := 2) (w := 2) ⟨by decide, by decide⟩ (bd_cond (u := 2) (v := 1) (w := 2) (bd_add (u := 1) (v := 1) (w := 2) ⟨by decide, by decide⟩ ⟨by decide, by decide⟩ (by decide)) ⟨by decide, by decide⟩ (by decide) (by decide)) (by decide) (by decide))
theorem c141_2 (x0_1 : Int) (x1 : Int) : r141_2 x0_1 x1 = x0_1 + g141_2 x1 := by simp only [r141_2, g141_2, bif_p1 x0_1, bif_p2 x0_1, bif_p3 x0_1, Int.add_assoc, Bool.cond_self]
def g141_3 (x0_0 : List Row) (x0_1 : Int) (x0_2 : Int) (x1 : Int) : Int := bif decide (x1 ≤ (1 : Int)) then x0_2 else bif decide (x1 > (200 : Int)) then nextS x0_0 (x0_1 + (1 : Int)) (nextS x0_0 x0_1 x0_2) else nextS x0_0 x0_1 x0_2
theorem k141 (x0_0 : List Row) (x0_1 : Int) (x0_2 : Int) (x1 : Int) (h : (bytesOk x0_0 && (okTo (1 : Int) x0_1 && (x1 != (0 : Int) || decide (x1 ≤ (1 : Int))))) = true) : ((okTo (0 : Int) x0_1 && bytesOk x0_0 && true && ((okTo (0 : Int) (x0_1 + (1 : Int)) && bytesOk x0_0 && true || !decide (x1 > (200 : Int))) && true && (x1 != (0 : Int) && true && true)) || decide (x1 ≤ (1 : Int))) && true) = true := by
  obtain ⟨h0, h⟩ := Bool.and_eq_true_iff.1 h
  obtain ⟨h1, h⟩ := Bool.and_eq_true_iff.1 h
  have h2 := h
  have p0 : (okTo (0 : Int) x0_1) = true := (okTo_le (v := 0) h1 (by decide))
  have p1 : (okTo (0 : Int) (x0_1 + (1 : Int))) = true := (okTo_add (u := 1) (v := 0) (w := 1) (okTo_le (v := 1) h1 (by decide)) ⟨by decide, by decide⟩ (by decide))
  simp only [h0, h2, p0, p1, Bool.and_true, Bool.true_and, Bool.or_true, Bool.true_or, Bool.or_false, Bool.false_or, Bool.and_self, Bool.cond_self, Bool.not_true, Bool.not_false, Bool.false_and, Bool.and_false, u64_dec, Nat.zero_add, Nat.le_refl, decide_true, eq_self, List.drop_zero, List.take_length, Bool.not_not, bif_tf, bif_ft]
theorem d141 (x0_0 : List Row) (x0_1 : Int) (x0_2 : Int) (x1 : Int) : fnT Q217 [] [] 0 F141 [.one (.ptr 0 0 0), .one (.lit (.int .i64 x1))] [.box [.imm true 1 x0_0, .lit (.int .i64 x0_1), .lit (.int .u64 x0_2)]] = some ((SV.one (T.lit (Value.int IntKind.i64 (g141_0 x0_0 x0_1 x0_2 x1))), [Blk.box [T.imm true (1 : Nat) (r141_1 x0_0 x1), T.lit (Value.int IntKind.i64 (r141_2 x0_1 x1)), T.lit (Value.int IntKind.u64 (g141_3 x0_0 x0_1 x0_2 x1))]]), (okTo (0 : Int) x0_1 && bytesOk x0_0 && true && ((okTo (0 : Int) (x0_1 + (1 : Int)) && bytesOk x0_0 && true || !decide (x1 > (200 : Int))) && true && (x1 != (0 : Int) && true && true)) || decide (x1 ≤ (1 : Int))) && true) := by kernel_rfl
theorem e141 (x0_0 : List Row) (x0_1 : Int) (x0_2 : Int) (x1 : Int) : fnT Q217 [] [] 0 F141 [.one (.ptr 0 0 0), .one (.lit (.int .i64 x1))] [.box [.imm true 1 x0_0, .lit (.int .i64 x0_1), .lit (.int .u64 x0_2)]] = some ((SV.one (T.lit (Value.int IntKind.i64 (g141_0 x0_0 x0_1 x0_2 x1))), [Blk.box [T.imm true (1 : Nat) x0_0, T.lit (Value.int IntKind.i64 (x0_1 + g141_2 x1)), T.lit (Value.int IntKind.u64 (g141_3 x0_0 x0_1 x0_2 x1))]]), (okTo (0 : Int) x0_1 && bytesOk x0_0 && true && ((okTo (0 : Int) (x0_1 + (1 : Int)) && bytesOk x0_0 && true || !decide (x1 > (200 : Int))) && true && (x1 != (0 : Int) && true && true)) || decide (x1 ≤ (1 : Int))) && true) := by rw [d141, c141_1, c141_2]
def q141 : List SV → List Blk → Option ((SV × List Blk) × Bool)
  | [.one (.ptr 0 0 0), .one (.lit (.int .i64 x1))], [.box [.imm true 1 x0_0, .lit (.int .i64 x0_1), .lit (.int .u64 x0_2)]] => some ((SV.one (T.lit (Value.int IntKind.i64 (g141_0 x0_0 x0_1 x0_2 x1))), [Blk.box [T.imm true (1 : Nat) x0_0, T.lit (Value.int IntKind.i64 (x0_1 + g141_2 x1)), T.lit (Value.int IntKind.u64 (g141_3 x0_0 x0_1 x0_2 x1))]]), bytesOk x0_0 && (okTo (1 : Int) x0_1 && (x1 != (0 : Int) || decide (x1 ≤ (1 : Int)))))
  | _, _ => none
theorem t141 (args : List SV) (hp : List Blk) (r : SV × List Blk) (h : q141 args hp = some (r, true)) : R 141 args hp = some r := by
  unfold q141 at h
  split at h
  · rename_i x1 x0_0 x0_1 x0_2; exact R_fn at141 0 (fnT_run Q217_ok (okTrans (e141 x0_0 x0_1 x0_2 x1) (k141 x0_0 x0_1 x0_2 x1) h))
  · simp at h
noncomputable def Q141 : Qt := qcons 141 q141 Q217
theorem Q141_ok : QOk R Q141 := qcons_ok t141 Q217_ok
theorem pick_rng {rows : List Row} (hb : bytesOk rows = true) {p : Int} (h0 : 0 ≤ p) (s : Int) {n : Int} (hn : 2 ≤ n) : 0 ≤ g141_0 rows p s n ∧ g141_0 rows p s n < n := by
  unfold g141_0
  have e1 : decide (n ≤ (1 : Int)) = false := by simp; omega
  rw [e1, cond_false]
  have r1 := nextV_rng hb h0 s
  have r2 := nextV_rng hb (show 0 ≤ p + 1 by omega) (nextS rows p s)
  have hx : 0 ≤ (bif decide (n > (200 : Int)) then IntKind.wrap IntKind.i64 (IntKind.wrap IntKind.i64 (nextV rows p s * (256 : Int)) + nextV rows (p + (1 : Int)) (nextS rows p s)) else nextV rows p s) := by
    cases decide (n > (200 : Int))
    · exact r1.1
    · simp only [cond_true, IntKind.wrap_i64]
      omega
  exact ⟨Int.tmod_nonneg _ hx, Int.tmod_lt_of_pos _ (by omega)⟩
/-! (*spec.l1Cur).among -/
def g133_0 (x0_0 : List Row) (x0_1 : Int) (x0_2 : Int) (x1 : List Row) : Int := intAt x1 (Int.toNat (g141_0 x0_0 x0_1 x0_2 (↑(List.length x1) : Int))) (0 : Nat)
def r133_1 (x0_1 : Int) (x1 : List Row) : Int := x0_1 + g141_2 (↑(List.length x1) : Int)
def g133_1 (x1 : List Row) : Int := g141_2 (↑(List.length x1) : Int)
theorem b133_1 (x1 : List Row) : bd (g133_1 x1) 2 := by
  unfold g133_1
  exact (b141_2 _)
theorem c133_1 (x0_1 : Int) (x1 : List Row) : r133_1 x0_1 x1 = x0_1 + g133_1 x1 := by simp only [r133_1, g133_1, bif_p1 x0_1, bif_p2 x0_1, bif_p3 x0_1, Int.add_assoc, Bool.cond_self]
def g133_2 (x0_0 : List Row) (x0_1 : Int) (x0_2 : Int) (x1 : List Row) : Int := g141_3 x0_0 x0_1 x0_2 (↑(List.length x1) : Int)
theorem k133 (x0_0 : List Row) (x0_1 : Int) (x0_2 : Int) (px1 : Bool) (x1 : List Row) (h : (bytesOk x0_0 && (okTo (2 : Int) x0_1 && listOk x1)) = true) : (bytesOk x0_0 && (okTo (1 : Int) x0_1 && ((↑(List.length x1) : Int) != (0 : Int) || decide ((↑(List.length x1) : Int) ≤ (1 : Int)))) && (inRow [Kd.int IntKind.i64] x1 (g141_0 x0_0 x0_1 x0_2 (↑(List.length x1) : Int)) && true) && true && true) = true := by
  obtain ⟨h0, h⟩ := Bool.and_eq_true_iff.1 h
  obtain ⟨h1, h2⟩ := Bool.and_eq_true_iff.1 h
  have hl : 2 ≤ x1.length := by simp only [listOk, Bool.and_eq_true, decide_eq_true_eq] at h2; exact h2.1
  have hp := (okTo_iff.1 h1).1
  have hr := pick_rng h0 hp x0_2 (n := (x1.length : Int)) (by omega)
  have hi := inRow_list h2 hr.1 hr.2
  have hne : ((x1.length : Int) != 0) = true := by rw [bne_iff_ne]; omega
  have h1' : okTo 1 x0_1 = true := okTo_le h1 (by decide)
  simp only [h0, h1', hi, hne, Bool.and_true, Bool.true_and, Bool.or_true, Bool.true_or]
theorem d133 (x0_0 : List Row) (x0_1 : Int) (x0_2 : Int) (px1 : Bool) (x1 : List Row) : fnT Q141 [(10, [.int .i64]), (11, [.int .i64])] [] 0 F133 [.one (.ptr 0 0 0), .one (.imm px1 1 x1)] [.box [.imm true 1 x0_0, .lit (.int .i64 x0_1), .lit (.int .u64 x0_2)]] = some ((SV.one (T.lit (Value.int IntKind.i64 (g133_0 x0_0 x0_1 x0_2 x1))), [Blk.box [T.imm true (1 : Nat) x0_0, T.lit (Value.int IntKind.i64 (r133_1 x0_1 x1)), T.lit (Value.int IntKind.u64 (g133_2 x0_0 x0_1 x0_2 x1))]]), bytesOk x0_0 && (okTo (1 : Int) x0_1 && ((↑(List.length x1) : Int) != (0 : Int) || decide ((↑(List.length x1) : Int) ≤ (1 : Int)))) && (inRow [Kd.int IntKind.i64] x1 (g141_0 x0_0 x0_1 x0_2 (↑(List.length x1) : Int)) && true) && true && true) := by kernel_rfl
theorem e133 (x0_0 : List Row) (x0_1 : Int) (x0_2 : Int) (px1 : Bool) (x1 : List Row) : fnT Q141 [(10, [.int .i64]), (11, [.int .i64])] [] 0 F133 [.one (.ptr 0 0 0), .one (.imm px1 1 x1)] [.box [.imm true 1 x0_0, .lit (.int .i64 x0_1), .lit (.int .u64 x0_2)]] = some ((SV.one (T.lit (Value.int IntKind.i64 (g133_0 x0_0 x0_1 x0_2 x1))), [Blk.box [T.imm true (1 : Nat) x0_0, T.lit (Value.int IntKind.i64 (x0_1 + g133_1 x1)), T.lit (Value.int IntKind.u64 (g133_2 x0_0 x0_1 x0_2 x1))]]), bytesOk x0_0 && (okTo (1 : Int) x0_1 && ((↑(List.length x1) : Int) != (0 : Int) || decide ((↑(List.length x1) : Int) ≤ (1 : Int)))) && (inRow [Kd.int IntKind.i64] x1 (g141_0 x0_0 x0_1 x0_2 (↑(List.length x1) : Int)) && true) && true && true) := by rw [d133, c133_1]
def q133 : List SV → List Blk → Option ((SV × List Blk) × Bool)
  | [.one (.ptr 0 0 0), .one (.imm px1 1 x1)], [.box [.imm true 1 x0_0, .lit (.int .i64 x0_1), .lit (.int .u64 x0_2)]] => some ((SV.one (T.lit (Value.int IntKind.i64 (g133_0 x0_0 x0_1 x0_2 x1))), [Blk.box [T.imm true (1 : Nat) x0_0, T.lit (Value.int IntKind.i64 (x0_1 + g133_1 x1)), T.lit (Value.int IntKind.u64 (g133_2 x0_0 x0_1 x0_2 x1))]]), bytesOk x0_0 && (okTo (2 : Int) x0_1 && listOk x1))
  | _, _ => none
theorem t133 (args : List SV) (hp : List Blk) (r : SV × List Blk) (h : q133 args hp = some (r, true)) : R 133 args hp = some r := by
  unfold q133 at h
  split at h
  · rename_i px1 x1 x0_0 x0_1 x0_2; exact R_fn at133 0 (fnT_run Q141_ok (okTrans (e133 x0_0 x0_1 x0_2 px1 x1) (k133 x0_0 x0_1 x0_2 px1 x1) h))
  · simp at h
noncomputable def Q133 : Qt := qcons 133 q133 Q141
theorem Q133_ok : QOk R Q133 := qcons_ok t133 Q141_ok
/-! (*spec.l1Cur).size -/
def g148_0 (x0_0 : List Row) (x0_1 : Int) (x0_2 : Int) : Int := g133_0 x0_0 x0_1 x0_2 (ri [(1 : Int), (2 : Int), (2 : Int), (1 : Int), (1 : Int), (2 : Int), (2 : Int), (2 : Int), (0 : Int), (3 : Int)])
def r148_1 (x0_1 : Int) : Int := x0_1 + (1 : Int)
theorem c148_1 (x0_1 : Int) : r148_1 x0_1 = x0_1 + (1 : Int) := by simp only [r148_1, bif_p1 x0_1, bif_p2 x0_1, bif_p3 x0_1, Int.add_assoc, Bool.cond_self]
def g148_2 (x0_0 : List Row) (x0_1 : Int) (x0_2 : Int) : Int := g133_2 x0_0 x0_1 x0_2 (ri [(1 : Int), (2 : Int), (2 : Int), (1 : Int), (1 : Int), (2 : Int), (2 : Int), (2 : Int), (0 : Int), (3 : Int)])
theorem k148 (x0_0 : List Row) (x0_1 : Int) (x0_2 : Int) (h : (bytesOk x0_0 && okTo (2 : Int) x0_1) = true) : (bytesOk x0_0 && (okTo (2 : Int) x0_1 && true) && true && true && true) = true := by
  obtain ⟨h0, h⟩ := Bool.and_eq_true_iff.1 h
  have h1 := h
  have p0 : (okTo (2 : Int) x0_1) = true := (okTo_le (v := 2) h1 (by decide))
  simp only [h0, p0, Bool.and_true, Bool.true_and, Bool.or_true, Bool.true_or, Bool.or_false, Bool.false_or, Bool.and_self, Bool.cond_self, Bool.not_true, Bool.not_false, Bool.false_and, Bool.and_false, u64_dec, Nat.zero_add, Nat.le_refl, decide_true, eq_self, List.drop_zero, List.take_length, Bool.not_not, bif_tf, bif_ft]
theorem d148 (x0_0 : List Row) (x0_1 : Int) (x0_2 : Int) : fnT Q133 [] [] 0 F148 [.one (.ptr 0 0 0)] [.box [.imm true 1 x0_0, .lit (.int .i64 x0_1), .lit (.int .u64 x0_2)]] = some ((SV.one (T.lit (Value.int IntKind.i64 (g148_0 x0_0 x0_1 x0_2))), [Blk.box [T.imm true (1 : Nat) x0_0, T.lit (Value.int IntKind.i64 (r148_1 x0_1)), T.lit (Value.int IntKind.u64 (g148_2 x0_0 x0_1 x0_2))]]), bytesOk x0_0 && (okTo (2 : Int) x0_1 && true) && true && true && true) := by kernel_rfl
theorem e148 (x0_0 : List Row) (x0_1 : Int) (x0_2 : Int) : fnT Q133 [] [] 0 F148 [.one (.ptr 0 0 0)] [.box [.imm true 1 x0_0, .lit (.int .i64 x0_1), .lit (.int .u64 x0_2)]] = some ((SV.one (T.lit (Value.int IntKind.i64 (g148_0 x0_0 x0_1 x0_2))), [Blk.box [T.imm true (1 : Nat) x0_0, T.lit (Value.int IntKind.i64 (x0_1 + (1 : Int))), T.lit (Value.int IntKind.u64 (g148_2 x0_0 x0_1 x0_2))]]), bytesOk x0_0 && (okTo (2 : Int) x0_1 && true) && true && true && true) := by rw [d148, c148_1]
def q148 : List SV → List Blk → Option ((SV × List Blk) × Bool)
  | [.one (.ptr 0 0 0)], [.box [.imm true 1 x0_0, .lit (.int .i64 x0_1), .lit (.int .u64 x0_2)]] => some ((SV.one (T.lit (Value.int IntKind.i64 (g148_0 x0_0 x0_1 x0_2))), [Blk.box [T.imm true (1 : Nat) x0_0, T.lit (Value.int IntKind.i64 (x0_1 + (1 : Int))), T.lit (Value.int IntKind.u64 (g148_2 x0_0 x0_1 x0_2))]]), bytesOk x0_0 && okTo (2 : Int) x0_1)
  | _, _ => none
theorem t148 (args : List SV) (hp : List Blk) (r : SV × List Blk) (h : q148 args hp = some (r, true)) : R 148 args hp = some r := by
  unfold q148 at h
  split at h
  · rename_i x0_0 x0_1 x0_2; exact R_fn at148 0 (fnT_run Q133_ok (okTrans (e148 x0_0 x0_1 x0_2) (k148 x0_0 x0_1 x0_2) h))
  · simp at h
noncomputable def Q148 : Qt := qcons 148 q148 Q133
theorem Q148_ok : QOk R Q148 := qcons_ok t148 Q133_ok
/-! (*spec.l1Cur).one -/
def g167_0 (x0_0 : List Row) (x0_1 : Int) (x0_2 : Int) (x1 : Int) : Bool := g141_0 x0_0 x0_1 x0_2 x1 == (0 : Int)
def r167_1 (x0_1 : Int) (x1 : Int) : Int := x0_1 + g141_2 x1
def g167_1 (x1 : Int) : Int := g141_2 x1
theorem b167_1 (x1 : Int) : bd (g167_1 x1) 2 := by
  unfold g167_1
  exact (b141_2 _)
theorem c167_1 (x0_1 : Int) (x1 : Int) : r167_1 x0_1 x1 = x0_1 + g167_1 x1 := by simp only [r167_1, g167_1, bif_p1 x0_1, bif_p2 x0_1, bif_p3 x0_1, Int.add_assoc, Bool.cond_self]
def g167_2 (x0_0 : List Row) (x0_1 : Int) (x0_2 : Int) (x1 : Int) : Int := g141_3 x0_0 x0_1 x0_2 x1
theorem k167 (x0_0 : List Row) (x0_1 : Int) (x0_2 : Int) (x1 : Int) (h : (bytesOk x0_0 && (okTo (1 : Int) x0_1 && (x1 != (0 : Int) || decide (x1 ≤ (1 : Int))))) = true) : (bytesOk x0_0 && (okTo (1 : Int) x0_1 && (x1 != (0 : Int) || decide (x1 ≤ (1 : Int)))) && true && true && true) = true := by
  obtain ⟨h0, h⟩ := Bool.and_eq_true_iff.1 h
  obtain ⟨h1, h⟩ := Bool.and_eq_true_iff.1 h
  have h2 := h
  have p0 : (okTo (1 : Int) x0_1) = true := (okTo_le (v := 1) h1 (by decide))
  simp only [h0, h2, p0, Bool.and_true, Bool.true_and, Bool.or_true, Bool.true_or, Bool.or_false, Bool.false_or, Bool.and_self, Bool.cond_self, Bool.not_true, Bool.not_false, Bool.false_and, Bool.and_false, u64_dec, Nat.zero_add, Nat.le_refl, decide_true, eq_self, List.drop_zero, List.take_length, Bool.not_not, bif_tf, bif_ft]
theorem d167 (x0_0 : List Row) (x0_1 : Int) (x0_2 : Int) (x1 : Int) : fnT Q148 [] [] 0 F167 [.one (.ptr 0 0 0), .one (.lit (.int .i64 x1))] [.box [.imm true 1 x0_0, .lit (.int .i64 x0_1), .lit (.int .u64 x0_2)]] = some ((SV.one (T.lit (Value.bool (g167_0 x0_0 x0_1 x0_2 x1))), [Blk.box [T.imm true (1 : Nat) x0_0, T.lit (Value.int IntKind.i64 (r167_1 x0_1 x1)), T.lit (Value.int IntKind.u64 (g167_2 x0_0 x0_1 x0_2 x1))]]), bytesOk x0_0 && (okTo (1 : Int) x0_1 && (x1 != (0 : Int) || decide (x1 ≤ (1 : Int)))) && true && true && true) := by kernel_rfl
theorem e167 (x0_0 : List Row) (x0_1 : Int) (x0_2 : Int) (x1 : Int) : fnT Q148 [] [] 0 F167 [.one (.ptr 0 0 0), .one (.lit (.int .i64 x1))] [.box [.imm true 1 x0_0, .lit (.int .i64 x0_1), .lit (.int .u64 x0_2)]] = some ((SV.one (T.lit (Value.bool (g167_0 x0_0 x0_1 x0_2 x1))), [Blk.box [T.imm true (1 : Nat) x0_0, T.lit (Value.int IntKind.i64 (x0_1 + g167_1 x1)), T.lit (Value.int IntKind.u64 (g167_2 x0_0 x0_1 x0_2 x1))]]), bytesOk x0_0 && (okTo (1 : Int) x0_1 && (x1 != (0 : Int) || decide (x1 ≤ (1 : Int)))) && true && true && true) := by rw [d167, c167_1]
def q167 : List SV → List Blk → Option ((SV × List Blk) × Bool)
  | [.one (.ptr 0 0 0), .one (.lit (.int .i64 x1))], [.box [.imm true 1 x0_0, .lit (.int .i64 x0_1), .lit (.int .u64 x0_2)]] => some ((SV.one (T.lit (Value.bool (g167_0 x0_0 x0_1 x0_2 x1))), [Blk.box [T.imm true (1 : Nat) x0_0, T.lit (Value.int IntKind.i64 (x0_1 + g167_1 x1)), T.lit (Value.int IntKind.u64 (g167_2 x0_0 x0_1 x0_2 x1))]]), bytesOk x0_0 && (okTo (1 : Int) x0_1 && (x1 != (0 : Int) || decide (x1 ≤ (1 : Int)))))
  | _, _ => none
theorem t167 (args : List SV) (hp : List Blk) (r : SV × List Blk) (h : q167 args hp = some (r, true)) : R 167 args hp = some r := by
  unfold q167 at h
  split at h
  · rename_i x1 x0_0 x0_1 x0_2; exact R_fn at167 0 (fnT_run Q148_ok (okTrans (e167 x0_0 x0_1 x0_2 x1) (k167 x0_0 x0_1 x0_2 x1) h))
  · simp at h
noncomputable def Q167 : Qt := qcons 167 q167 Q148
theorem Q167_ok : QOk R Q167 := qcons_ok t167 Q148_ok
/-! (*spec.l1Cur).value -/
def g166_0 (x0_0 : List Row) (x0_1 : Int) (x0_2 : Int) : Int := bif g167_0 x0_0 x0_1 x0_2 (2 : Int) then g133_0 x0_0 (x0_1 + (1 : Int)) (g167_2 x0_0 x0_1 x0_2 (2 : Int)) (ri [(0 : Int), (1 : Int), (127 : Int), (128 : Int), (255 : Int), (256 : Int), (32767 : Int), (32768 : Int), (65535 : Int), (65536 : Int), (-1 : Int)]) else IntKind.wrap IntKind.i64 (IntKind.wrap IntKind.i64 (IntKind.wrap IntKind.i64 (g141_0 x0_0 (x0_1 + (1 : Int)) (g167_2 x0_0 x0_1 x0_2 (2 : Int)) (256 : Int) * g141_0 x0_0 (x0_1 + (1 : Int) + (2 : Int)) (g141_3 x0_0 (x0_1 + (1 : Int)) (g167_2 x0_0 x0_1 x0_2 (2 : Int)) (256 : Int)) (2 : Int)) * (256 : Int)) + g141_0 x0_0 (x0_1 + (1 : Int) + (2 : Int) + (1 : Int)) (g141_3 x0_0 (x0_1 + (1 : Int) + (2 : Int)) (g141_3 x0_0 (x0_1 + (1 : Int)) (g167_2 x0_0 x0_1 x0_2 (2 : Int)) (256 : Int)) (2 : Int)) (256 : Int))
def r166_1 (x0_0 : List Row) (x0_1 : Int) (x0_2 : Int) : List (List T) := bif g167_0 x0_0 x0_1 x0_2 (2 : Int) then x0_0 else x0_0
theorem c166_1 (x0_0 : List Row) (x0_1 : Int) (x0_2 : Int) : r166_1 x0_0 x0_1 x0_2 = x0_0 := by simp only [r166_1, Bool.cond_self, bif_tf, bif_ft, Bool.not_not, List.drop_zero, List.take_length]
def r166_2 (x0_0 : List Row) (x0_1 : Int) (x0_2 : Int) : Int := bif g167_0 x0_0 x0_1 x0_2 (2 : Int) then x0_1 + (1 : Int) + (1 : Int) else x0_1 + (1 : Int) + (2 : Int) + (1 : Int) + (2 : Int)
def g166_2 (x0_0 : List Row) (x0_1 : Int) (x0_2 : Int) : Int := bif g167_0 x0_0 x0_1 x0_2 (2 : Int) then (1 : Int) + (1 : Int) else (1 : Int) + (2 : Int) + (1 : Int) + (2 : Int)
theorem b166_2 (x0_0 : List Row) (x0_1 : Int) (x0_2 : Int) : bd (g166_2 x0_0 x0_1 x0_2) 6 := by
  unfold g166_2
  exact (bd_cond (u := 2) (v := 6) (w := 6) (bd_add (u := 1) (v := 1) (w := 2) ⟨by decide, by decide⟩ ⟨by decide, by decide⟩ (by decide)) (bd_add (u := 4) (v := 2) (w := 6) (bd_add (u := 3) (v := 1) (w := 4) (bd_add (u := 1) (v := 2) (w := 3) ⟨by decide, by decide⟩ ⟨by decide, by decide⟩ (by decide)) ⟨by decide, by decide⟩ (by decide)) ⟨by decide, by decide⟩ (by decide)) (by decide) (by decide))
theorem c166_2 (x0_0 : List Row) (x0_1 : Int) (x0_2 : Int) : r166_2 x0_0 x0_1 x0_2 = x0_1 + g166_2 x0_0 x0_1 x0_2 := by simp only [r166_2, g166_2, bif_p1 x0_1, bif_p2 x0_1, bif_p3 x0_1, Int.add_assoc, Bool.cond_self]
def g166_3 (x0_0 : List Row) (x0_1 : Int) (x0_2 : Int) : Int := bif g167_0 x0_0 x0_1 x0_2 (2 : Int) then g133_2 x0_0 (x0_1 + (1 : Int)) (g167_2 x0_0 x0_1 x0_2 (2 : Int)) (ri [(0 : Int), (1 : Int), (127 : Int), (128 : Int), (255 : Int), (256 : Int), (32767 : Int), (32768 : Int), (65535 : Int), (65536 : Int), (-1 : Int)]) else g141_3 x0_0 (x0_1 + (1 : Int) + (2 : Int) + (1 : Int)) (g141_3 x0_0 (x0_1 + (1 : Int) + (2 : Int)) (g141_3 x0_0 (x0_1 + (1 : Int)) (g167_2 x0_0 x0_1 x0_2 (2 : Int)) (256 : Int)) (2 : Int)) (256 : Int)
theorem k166 (x0_0 : List Row) (x0_1 : Int) (x0_2 : Int) (h : (bytesOk x0_0 && okTo (5 : Int) x0_1) = true) : (bytesOk x0_0 && (okTo (1 : Int) x0_1 && true) && true && ((bytesOk x0_0 && (okTo (2 : Int) (x0_1 + (1 : Int)) && true) && true && true || !g167_0 x0_0 x0_1 x0_2 (2 : Int)) && true) && (bytesOk x0_0 && (okTo (1 : Int) (x0_1 + (1 : Int)) && true) && (bytesOk x0_0 && (okTo (1 : Int) (x0_1 + (1 : Int) + (2 : Int)) && true) && (bytesOk x0_0 && (okTo (1 : Int) (x0_1 + (1 : Int) + (2 : Int) + (1 : Int)) && true) && true)) && true || g167_0 x0_0 x0_1 x0_2 (2 : Int)) && true) = true := by
  obtain ⟨h0, h⟩ := Bool.and_eq_true_iff.1 h
  have h1 := h
  have p0 : (okTo (1 : Int) x0_1) = true := (okTo_le (v := 1) h1 (by decide))
  have p1 : (okTo (2 : Int) (x0_1 + (1 : Int))) = true := (okTo_add (u := 1) (v := 2) (w := 3) (okTo_le (v := 3) h1 (by decide)) ⟨by decide, by decide⟩ (by decide))
  have p2 : (okTo (1 : Int) (x0_1 + (1 : Int))) = true := (okTo_add (u := 1) (v := 1) (w := 2) (okTo_le (v := 2) h1 (by decide)) ⟨by decide, by decide⟩ (by decide))
  have p3 : (okTo (1 : Int) (x0_1 + (1 : Int) + (2 : Int))) = true := (okTo_add (u := 2) (v := 1) (w := 3) (okTo_add (u := 1) (v := 3) (w := 4) (okTo_le (v := 4) h1 (by decide)) ⟨by decide, by decide⟩ (by decide)) ⟨by decide, by decide⟩ (by decide))
  have p4 : (okTo (1 : Int) (x0_1 + (1 : Int) + (2 : Int) + (1 : Int))) = true := (okTo_add (u := 1) (v := 1) (w := 2) (okTo_add (u := 2) (v := 2) (w := 4) (okTo_add (u := 1) (v := 4) (w := 5) (okTo_le (v := 5) h1 (by decide)) ⟨by decide, by decide⟩ (by decide)) ⟨by decide, by decide⟩ (by decide)) ⟨by decide, by decide⟩ (by decide))
  simp only [h0, p0, p1, p2, p3, p4, Bool.and_true, Bool.true_and, Bool.or_true, Bool.true_or, Bool.or_false, Bool.false_or, Bool.and_self, Bool.cond_self, Bool.not_true, Bool.not_false, Bool.false_and, Bool.and_false, u64_dec, Nat.zero_add, Nat.le_refl, decide_true, eq_self, List.drop_zero, List.take_length, Bool.not_not, bif_tf, bif_ft]
theorem d166 (x0_0 : List Row) (x0_1 : Int) (x0_2 : Int) : fnT Q167 [] [] 0 F166 [.one (.ptr 0 0 0)] [.box [.imm true 1 x0_0, .lit (.int .i64 x0_1), .lit (.int .u64 x0_2)]] = some ((SV.one (T.lit (Value.int IntKind.i64 (g166_0 x0_0 x0_1 x0_2))), [Blk.box [T.imm true (1 : Nat) (r166_1 x0_0 x0_1 x0_2), T.lit (Value.int IntKind.i64 (r166_2 x0_0 x0_1 x0_2)), T.lit (Value.int IntKind.u64 (g166_3 x0_0 x0_1 x0_2))]]), bytesOk x0_0 && (okTo (1 : Int) x0_1 && true) && true && ((bytesOk x0_0 && (okTo (2 : Int) (x0_1 + (1 : Int)) && true) && true && true || !g167_0 x0_0 x0_1 x0_2 (2 : Int)) && true) && (bytesOk x0_0 && (okTo (1 : Int) (x0_1 + (1 : Int)) && true) && (bytesOk x0_0 && (okTo (1 : Int) (x0_1 + (1 : Int) + (2 : Int)) && true) && (bytesOk x0_0 && (okTo (1 : Int) (x0_1 + (1 : Int) + (2 : Int) + (1 : Int)) && true) && true)) && true || g167_0 x0_0 x0_1 x0_2 (2 : Int)) && true) := by kernel_rfl
theorem e166 (x0_0 : List Row) (x0_1 : Int) (x0_2 : Int) : fnT Q167 [] [] 0 F166 [.one (.ptr 0 0 0)] [.box [.imm true 1 x0_0, .lit (.int .i64 x0_1), .lit (.int .u64 x0_2)]] = some ((SV.one (T.lit (Value.int IntKind.i64 (g166_0 x0_0 x0_1 x0_2))), [Blk.box [T.imm true (1 : Nat) x0_0, T.lit (Value.int IntKind.i64 (x0_1 + g166_2 x0_0 x0_1 x0_2)), T.lit (Value.int IntKind.u64 (g166_3 x0_0 x0_1 x0_2))]]), bytesOk x0_0 && (okTo (1 : Int) x0_1 && true) && true && ((bytesOk x0_0 && (okTo (2 : Int) (x0_1 + (1 : Int)) && true) && true && true || !g167_0 x0_0 x0_1 x0_2 (2 : Int)) && true) && (bytesOk x0_0 && (okTo (1 : Int) (x0_1 + (1 : Int)) && true) && (bytesOk x0_0 && (okTo (1 : Int) (x0_1 + (1 : Int) + (2 : Int)) && true) && (bytesOk x0_0 && (okTo (1 : Int) (x0_1 + (1 : Int) + (2 : Int) + (1 : Int)) && true) && true)) && true || g167_0 x0_0 x0_1 x0_2 (2 : Int)) && true) := by rw [d166, c166_1, c166_2]
def q166 : List SV → List Blk → Option ((SV × List Blk) × Bool)
  | [.one (.ptr 0 0 0)], [.box [.imm true 1 x0_0, .lit (.int .i64 x0_1), .lit (.int .u64 x0_2)]] => some ((SV.one (T.lit (Value.int IntKind.i64 (g166_0 x0_0 x0_1 x0_2))), [Blk.box [T.imm true (1 : Nat) x0_0, T.lit (Value.int IntKind.i64 (x0_1 + g166_2 x0_0 x0_1 x0_2)), T.lit (Value.int IntKind.u64 (g166_3 x0_0 x0_1 x0_2))]]), bytesOk x0_0 && okTo (5 : Int) x0_1)
  | _, _ => none
theorem t166 (args : List SV) (hp : List Blk) (r : SV × List Blk) (h : q166 args hp = some (r, true)) : R 166 args hp = some r := by
  unfold q166 at h
  split at h
  · rename_i x0_0 x0_1 x0_2; exact R_fn at166 0 (fnT_run Q167_ok (okTrans (e166 x0_0 x0_1 x0_2) (k166 x0_0 x0_1 x0_2) h))
  · simp at h
noncomputable def Q166 : Qt := qcons 166 q166 Q167
theorem Q166_ok : QOk R Q166 := qcons_ok t166 Q167_ok
/-! (*spec.l1Cur).fit -/
def g149_0 (x0_0 : List Row) (x0_1 : Int) (x0_2 : Int) (x1 : Int) : Int := bif bif x1 == (1 : Int) then !g167_0 x0_0 (x0_1 + g166_2 x0_0 x0_1 x0_2) (g166_3 x0_0 x0_1 x0_2) (20 : Int) else false then IntKind.wrap IntKind.i64 (↑(BitVec.toNat (BitVec.ofInt (64 : Nat) (g166_0 x0_0 x0_1 x0_2) &&& BitVec.ofInt (64 : Nat) (255 : Int))) : Int) else g166_0 x0_0 x0_1 x0_2
def r149_1 (x0_0 : List Row) (x1 : Int) : List (List T) := bif x1 == (1 : Int) then x0_0 else x0_0
theorem c149_1 (x0_0 : List Row) (x1 : Int) : r149_1 x0_0 x1 = x0_0 := by simp only [r149_1, Bool.cond_self, bif_tf, bif_ft, Bool.not_not, List.drop_zero, List.take_length]
def r149_2 (x0_0 : List Row) (x0_1 : Int) (x0_2 : Int) (x1 : Int) : Int := bif x1 == (1 : Int) then x0_1 + g166_2 x0_0 x0_1 x0_2 + (1 : Int) else x0_1 + g166_2 x0_0 x0_1 x0_2
def g149_2 (x0_0 : List Row) (x0_1 : Int) (x0_2 : Int) (x1 : Int) : Int := bif x1 == (1 : Int) then g166_2 x0_0 x0_1 x0_2 + (1 : Int) else g166_2 x0_0 x0_1 x0_2
theorem b149_2 (x0_0 : List Row) (x0_1 : Int) (x0_2 : Int) (x1 : Int) : bd (g149_2 x0_0 x0_1 x0_2 x1) 7 := by
  unfold g149_2
  exact (bd_cond (u := 7) (v := 6) (w := 7) (bd_add (u := 6) (v := 1) (w := 7) (b166_2 _ _ _) ⟨by decide, by decide⟩ (by decide)) (b166_2 _ _ _) (by decide) (by decide))
theorem c149_2 (x0_0 : List Row) (x0_1 : Int) (x0_2 : Int) (x1 : Int) : r149_2 x0_0 x0_1 x0_2 x1 = x0_1 + g149_2 x0_0 x0_1 x0_2 x1 := by simp only [r149_2, g149_2, bif_p1 x0_1, bif_p2 x0_1, bif_p3 x0_1, Int.add_assoc, Bool.cond_self]
def g149_3 (x0_0 : List Row) (x0_1 : Int) (x0_2 : Int) (x1 : Int) : Int := bif x1 == (1 : Int) then g167_2 x0_0 (x0_1 + g166_2 x0_0 x0_1 x0_2) (g166_3 x0_0 x0_1 x0_2) (20 : Int) else g166_3 x0_0 x0_1 x0_2
theorem k149 (x0_0 : List Row) (x0_1 : Int) (x0_2 : Int) (x1 : Int) (h : (bytesOk x0_0 && okTo (7 : Int) x0_1) = true) : (bytesOk x0_0 && okTo (5 : Int) x0_1 && true && ((bytesOk x0_0 && (okTo (1 : Int) (x0_1 + g166_2 x0_0 x0_1 x0_2) && true) && true || !x1 == (1 : Int)) && true && true && true) && true) = true := by
  obtain ⟨h0, h⟩ := Bool.and_eq_true_iff.1 h
  have h1 := h
  have p0 : (okTo (5 : Int) x0_1) = true := (okTo_le (v := 5) h1 (by decide))
  have p1 : (okTo (1 : Int) (x0_1 + g166_2 x0_0 x0_1 x0_2)) = true := (okTo_add (u := 6) (v := 1) (w := 7) (okTo_le (v := 7) h1 (by decide)) (b166_2 _ _ _) (by decide))
  simp only [h0, p0, p1, Bool.and_true, Bool.true_and, Bool.or_true, Bool.true_or, Bool.or_false, Bool.false_or, Bool.and_self, Bool.cond_self, Bool.not_true, Bool.not_false, Bool.false_and, Bool.and_false, u64_dec, Nat.zero_add, Nat.le_refl, decide_true, eq_self, List.drop_zero, List.take_length, Bool.not_not, bif_tf, bif_ft]
theorem d149 (x0_0 : List Row) (x0_1 : Int) (x0_2 : Int) (x1 : Int) : fnT Q166 [] [] 0 F149 [.one (.ptr 0 0 0), .one (.lit (.int .i64 x1))] [.box [.imm true 1 x0_0, .lit (.int .i64 x0_1), .lit (.int .u64 x0_2)]] = some ((SV.one (T.lit (Value.int IntKind.i64 (g149_0 x0_0 x0_1 x0_2 x1))), [Blk.box [T.imm true (1 : Nat) (r149_1 x0_0 x1), T.lit (Value.int IntKind.i64 (r149_2 x0_0 x0_1 x0_2 x1)), T.lit (Value.int IntKind.u64 (g149_3 x0_0 x0_1 x0_2 x1))]]), bytesOk x0_0 && okTo (5 : Int) x0_1 && true && ((bytesOk x0_0 && (okTo (1 : Int) (x0_1 + g166_2 x0_0 x0_1 x0_2) && true) && true || !x1 == (1 : Int)) && true && true && true) && true) := by kernel_rfl
theorem e149 (x0_0 : List Row) (x0_1 : Int) (x0_2 : Int) (x1 : Int) : fnT Q166 [] [] 0 F149 [.one (.ptr 0 0 0), .one (.lit (.int .i64 x1))] [.box [.imm true 1 x0_0, .lit (.int .i64 x0_1), .lit (.int .u64 x0_2)]] = some ((SV.one (T.lit (Value.int IntKind.i64 (g149_0 x0_0 x0_1 x0_2 x1))), [Blk.box [T.imm true (1 : Nat) x0_0, T.lit (Value.int IntKind.i64 (x0_1 + g149_2 x0_0 x0_1 x0_2 x1)), T.lit (Value.int IntKind.u64 (g149_3 x0_0 x0_1 x0_2 x1))]]), bytesOk x0_0 && okTo (5 : Int) x0_1 && true && ((bytesOk x0_0 && (okTo (1 : Int) (x0_1 + g166_2 x0_0 x0_1 x0_2) && true) && true || !x1 == (1 : Int)) && true && true && true) && true) := by rw [d149, c149_1, c149_2]
def q149 : List SV → List Blk → Option ((SV × List Blk) × Bool)
  | [.one (.ptr 0 0 0), .one (.lit (.int .i64 x1))], [.box [.imm true 1 x0_0, .lit (.int .i64 x0_1), .lit (.int .u64 x0_2)]] => some ((SV.one (T.lit (Value.int IntKind.i64 (g149_0 x0_0 x0_1 x0_2 x1))), [Blk.box [T.imm true (1 : Nat) x0_0, T.lit (Value.int IntKind.i64 (x0_1 + g149_2 x0_0 x0_1 x0_2 x1)), T.lit (Value.int IntKind.u64 (g149_3 x0_0 x0_1 x0_2 x1))]]), bytesOk x0_0 && okTo (7 : Int) x0_1)
  | _, _ => none
theorem t149 (args : List SV) (hp : List Blk) (r : SV × List Blk) (h : q149 args hp = some (r, true)) : R 149 args hp = some r := by
  unfold q149 at h
  split at h
  · rename_i x1 x0_0 x0_1 x0_2; exact R_fn at149 0 (fnT_run Q166_ok (okTrans (e149 x0_0 x0_1 x0_2 x1) (k149 x0_0 x0_1 x0_2 x1) h))
  · simp at h
noncomputable def Q149 : Qt := qcons 149 q149 Q166
theorem Q149_ok : QOk R Q149 := qcons_ok t149 Q166_ok
/-! spec.DrawCondFor -/
def r67_0 (x0 : List Row) : Int := bif g167_0 x0 ((1 : Int) + g149_2 x0 (1 : Int) (g148_2 x0 (0 : Int) (0 : Int)) (g148_0 x0 (0 : Int) (0 : Int))) (g149_3 x0 (1 : Int) (g148_2 x0 (0 : Int) (0 : Int)) (g148_0 x0 (0 : Int) (0 : Int))) (4 : Int) then g148_0 x0 (0 : Int) (0 : Int) else g148_0 x0 (0 : Int) (0 : Int)
def g67_0 (x0 : List Row) : Int := g148_0 x0 (0 : Int) (0 : Int)
theorem c67_0 (x0 : List Row) : r67_0 x0 = g67_0 x0 := by simp only [r67_0, g67_0, Bool.cond_self, bif_tf, bif_ft, Bool.not_not, List.drop_zero, List.take_length]
def r67_1 (x0 : List Row) : Int := bif g167_0 x0 ((1 : Int) + g149_2 x0 (1 : Int) (g148_2 x0 (0 : Int) (0 : Int)) (g148_0 x0 (0 : Int) (0 : Int))) (g149_3 x0 (1 : Int) (g148_2 x0 (0 : Int) (0 : Int)) (g148_0 x0 (0 : Int) (0 : Int))) (4 : Int) then g149_0 x0 (1 : Int) (g148_2 x0 (0 : Int) (0 : Int)) (g148_0 x0 (0 : Int) (0 : Int)) else g149_0 x0 (1 : Int) (g148_2 x0 (0 : Int) (0 : Int)) (g148_0 x0 (0 : Int) (0 : Int))
def g67_1 (x0 : List Row) : Int := g149_0 x0 (1 : Int) (g148_2 x0 (0 : Int) (0 : Int)) (g148_0 x0 (0 : Int) (0 : Int))
theorem c67_1 (x0 : List Row) : r67_1 x0 = g67_1 x0 := by simp only [r67_1, g67_1, Bool.cond_self, bif_tf, bif_ft, Bool.not_not, List.drop_zero, List.take_length]
def g67_2 (x0 : List Row) : Int := bif g167_0 x0 ((1 : Int) + g149_2 x0 (1 : Int) (g148_2 x0 (0 : Int) (0 : Int)) (g148_0 x0 (0 : Int) (0 : Int))) (g149_3 x0 (1 : Int) (g148_2 x0 (0 : Int) (0 : Int)) (g148_0 x0 (0 : Int) (0 : Int))) (4 : Int) then g149_0 x0 (1 : Int) (g148_2 x0 (0 : Int) (0 : Int)) (g148_0 x0 (0 : Int) (0 : Int)) else g149_0 x0 ((1 : Int) + g149_2 x0 (1 : Int) (g148_2 x0 (0 : Int) (0 : Int)) (g148_0 x0 (0 : Int) (0 : Int)) + (1 : Int)) (g167_2 x0 ((1 : Int) + g149_2 x0 (1 : Int) (g148_2 x0 (0 : Int) (0 : Int)) (g148_0 x0 (0 : Int) (0 : Int))) (g149_3 x0 (1 : Int) (g148_2 x0 (0 : Int) (0 : Int)) (g148_0 x0 (0 : Int) (0 : Int))) (4 : Int)) (g148_0 x0 (0 : Int) (0 : Int))
theorem k67 (x0 : List Row) (h : (bytesOk x0) = true) : (bytesOk x0 && true && true && (bytesOk x0 && true && true && (bytesOk x0 && (okTo (1 : Int) ((1 : Int) + g149_2 x0 (1 : Int) (g148_2 x0 (0 : Int) (0 : Int)) (g148_0 x0 (0 : Int) (0 : Int))) && true) && true && true && (bytesOk x0 && okTo (7 : Int) ((1 : Int) + g149_2 x0 (1 : Int) (g148_2 x0 (0 : Int) (0 : Int)) (g148_0 x0 (0 : Int) (0 : Int)) + (1 : Int)) && true && true || g167_0 x0 ((1 : Int) + g149_2 x0 (1 : Int) (g148_2 x0 (0 : Int) (0 : Int)) (g148_0 x0 (0 : Int) (0 : Int))) (g149_3 x0 (1 : Int) (g148_2 x0 (0 : Int) (0 : Int)) (g148_0 x0 (0 : Int) (0 : Int))) (4 : Int)))) && true) = true := by
  have h0 := h
  have p0 : (okTo (1 : Int) ((1 : Int) + g149_2 x0 (1 : Int) (g148_2 x0 (0 : Int) (0 : Int)) (g148_0 x0 (0 : Int) (0 : Int)))) = true := (okTo_bd (u := 8) (bd_add (u := 1) (v := 7) (w := 8) ⟨by decide, by decide⟩ (b149_2 _ _ _ _) (by decide)) (by decide))
  have p1 : (okTo (7 : Int) ((1 : Int) + g149_2 x0 (1 : Int) (g148_2 x0 (0 : Int) (0 : Int)) (g148_0 x0 (0 : Int) (0 : Int)) + (1 : Int))) = true := (okTo_bd (u := 9) (bd_add (u := 8) (v := 1) (w := 9) (bd_add (u := 1) (v := 7) (w := 8) ⟨by decide, by decide⟩ (b149_2 _ _ _ _) (by decide)) ⟨by decide, by decide⟩ (by decide)) (by decide))
  simp only [h0, p0, p1, Bool.and_true, Bool.true_and, Bool.or_true, Bool.true_or, Bool.or_false, Bool.false_or, Bool.and_self, Bool.cond_self, Bool.not_true, Bool.not_false, Bool.false_and, Bool.and_false, u64_dec, Nat.zero_add, Nat.le_refl, decide_true, eq_self, List.drop_zero, List.take_length, Bool.not_not, bif_tf, bif_ft]
theorem d67 (x0 : List Row) : fnT Q149 [] [] 0 F67 [.one (.imm true 1 x0)] [] = some ((SV.tup [SV.one (T.lit (Value.int IntKind.i64 (r67_0 x0))), SV.one (T.lit (Value.int IntKind.i64 (r67_1 x0))), SV.one (T.lit (Value.int IntKind.i64 (g67_2 x0)))], []), bytesOk x0 && true && true && (bytesOk x0 && true && true && (bytesOk x0 && (okTo (1 : Int) ((1 : Int) + g149_2 x0 (1 : Int) (g148_2 x0 (0 : Int) (0 : Int)) (g148_0 x0 (0 : Int) (0 : Int))) && true) && true && true && (bytesOk x0 && okTo (7 : Int) ((1 : Int) + g149_2 x0 (1 : Int) (g148_2 x0 (0 : Int) (0 : Int)) (g148_0 x0 (0 : Int) (0 : Int)) + (1 : Int)) && true && true || g167_0 x0 ((1 : Int) + g149_2 x0 (1 : Int) (g148_2 x0 (0 : Int) (0 : Int)) (g148_0 x0 (0 : Int) (0 : Int))) (g149_3 x0 (1 : Int) (g148_2 x0 (0 : Int) (0 : Int)) (g148_0 x0 (0 : Int) (0 : Int))) (4 : Int)))) && true) := by kernel_rfl
theorem e67 (x0 : List Row) : fnT Q149 [] [] 0 F67 [.one (.imm true 1 x0)] [] = some ((SV.tup [SV.one (T.lit (Value.int IntKind.i64 (g67_0 x0))), SV.one (T.lit (Value.int IntKind.i64 (g67_1 x0))), SV.one (T.lit (Value.int IntKind.i64 (g67_2 x0)))], []), bytesOk x0 && true && true && (bytesOk x0 && true && true && (bytesOk x0 && (okTo (1 : Int) ((1 : Int) + g149_2 x0 (1 : Int) (g148_2 x0 (0 : Int) (0 : Int)) (g148_0 x0 (0 : Int) (0 : Int))) && true) && true && true && (bytesOk x0 && okTo (7 : Int) ((1 : Int) + g149_2 x0 (1 : Int) (g148_2 x0 (0 : Int) (0 : Int)) (g148_0 x0 (0 : Int) (0 : Int)) + (1 : Int)) && true && true || g167_0 x0 ((1 : Int) + g149_2 x0 (1 : Int) (g148_2 x0 (0 : Int) (0 : Int)) (g148_0 x0 (0 : Int) (0 : Int))) (g149_3 x0 (1 : Int) (g148_2 x0 (0 : Int) (0 : Int)) (g148_0 x0 (0 : Int) (0 : Int))) (4 : Int)))) && true) := by rw [d67, c67_0, c67_1]
def q67 : List SV → List Blk → Option ((SV × List Blk) × Bool)
  | [.one (.imm true 1 x0)], [] => some ((SV.tup [SV.one (T.lit (Value.int IntKind.i64 (g67_0 x0))), SV.one (T.lit (Value.int IntKind.i64 (g67_1 x0))), SV.one (T.lit (Value.int IntKind.i64 (g67_2 x0)))], []), bytesOk x0)
  | _, _ => none
theorem t67 (args : List SV) (hp : List Blk) (r : SV × List Blk) (h : q67 args hp = some (r, true)) : R 67 args hp = some r := by
  unfold q67 at h
  split at h
  · rename_i x0; exact R_fn at67 0 (fnT_run Q149_ok (okTrans (e67 x0) (k67 x0) h))
  · simp at h
noncomputable def Q67 : Qt := qcons 67 q67 Q149
theorem Q67_ok : QOk R Q67 := qcons_ok t67 Q149_ok
/-! impl.areFlags -/
def g183_0 (x0 : Int) : Bool := g142_0 x0 (0 : Int) (31 : Int)
theorem e183 (x0 : Int) : fnT Q67 [] [] 0 F183 [.one (.lit (.int .i64 x0))] [] = some ((SV.one (T.lit (Value.bool (g183_0 x0))), []), true) := by kernel_rfl
def q183 : List SV → List Blk → Option ((SV × List Blk) × Bool)
  | [.one (.lit (.int .i64 x0))], [] => some ((SV.one (T.lit (Value.bool (g183_0 x0))), []), true)
  | _, _ => none
theorem t183 (args : List SV) (hp : List Blk) (r : SV × List Blk) (h : q183 args hp = some (r, true)) : R 183 args hp = some r := by
  unfold q183 at h
  split at h
  · rename_i x0; exact R_fn at183 0 (fnT_run Q67_ok ((e183 x0).trans h))
  · simp at h
noncomputable def Q183 : Qt := qcons 183 q183 Q67
theorem Q183_ok : QOk R Q183 := qcons_ok t183 Q67_ok
/-! impl.flag -/
def g224_0 (x0 : Bool) (x1 : Int) : Int := bif x0 then x1 else (0 : Int)
theorem e224 (x0 : Bool) (x1 : Int) : fnT Q183 [] [] 0 F224 [.one (.lit (.bool x0)), .one (.lit (.int .i64 x1))] [] = some ((SV.one (T.lit (Value.int IntKind.i64 (g224_0 x0 x1))), []), true) := by kernel_rfl
def q224 : List SV → List Blk → Option ((SV × List Blk) × Bool)
  | [.one (.lit (.bool x0)), .one (.lit (.int .i64 x1))], [] => some ((SV.one (T.lit (Value.int IntKind.i64 (g224_0 x0 x1))), []), true)
  | _, _ => none
theorem t224 (args : List SV) (hp : List Blk) (r : SV × List Blk) (h : q224 args hp = some (r, true)) : R 224 args hp = some r := by
  unfold q224 at h
  split at h
  · rename_i x0 x1; exact R_fn at224 0 (fnT_run Q183_ok ((e224 x0 x1).trans h))
  · simp at h
noncomputable def Q224 : Qt := qcons 224 q224 Q183
theorem Q224_ok : QOk R Q224 := qcons_ok t224 Q183_ok
/-! impl.signs -/
def g225_0 (x0 : Int) (x1 : Int) : Int := IntKind.wrap IntKind.i64 (↑(BitVec.toNat (BitVec.ofInt (64 : Nat) (g224_0 (x1 == (0 : Int)) (4 : Int)) ||| BitVec.ofInt (64 : Nat) (g224_0 (decide (x1 ≥ IntKind.wrap IntKind.i64 (Int.tdiv (g218_0 x0) (2 : Int)))) (8 : Int)))) : Int)
theorem k225 (x0 : Int) (x1 : Int) (h : (decide ((0 : Int) ≤ IntKind.wrap IntKind.i64 ((8 : Int) * x0))) = true) : (decide ((0 : Int) ≤ IntKind.wrap IntKind.i64 ((8 : Int) * x0)) && true && true && true) = true := by
  have h0 := h
  simp only [h0, Bool.and_true, Bool.true_and, Bool.or_true, Bool.true_or, Bool.or_false, Bool.false_or, Bool.and_self, Bool.cond_self, Bool.not_true, Bool.not_false, Bool.false_and, Bool.and_false, u64_dec, Nat.zero_add, Nat.le_refl, decide_true, eq_self, List.drop_zero, List.take_length, Bool.not_not, bif_tf, bif_ft]
theorem e225 (x0 : Int) (x1 : Int) : fnT Q224 [] [] 0 F225 [.one (.lit (.int .i64 x0)), .one (.lit (.int .i64 x1))] [] = some ((SV.one (T.lit (Value.int IntKind.i64 (g225_0 x0 x1))), []), decide ((0 : Int) ≤ IntKind.wrap IntKind.i64 ((8 : Int) * x0)) && true && true && true) := by kernel_rfl
def q225 : List SV → List Blk → Option ((SV × List Blk) × Bool)
  | [.one (.lit (.int .i64 x0)), .one (.lit (.int .i64 x1))], [] => some ((SV.one (T.lit (Value.int IntKind.i64 (g225_0 x0 x1))), []), decide ((0 : Int) ≤ IntKind.wrap IntKind.i64 ((8 : Int) * x0)))
  | _, _ => none
theorem t225 (args : List SV) (hp : List Blk) (r : SV × List Blk) (h : q225 args hp = some (r, true)) : R 225 args hp = some r := by
  unfold q225 at h
  split at h
  · rename_i x0 x1; exact R_fn at225 0 (fnT_run Q224_ok (okTrans (e225 x0 x1) (k225 x0 x1) h))
  · simp at h
noncomputable def Q225 : Qt := qcons 225 q225 Q224
theorem Q225_ok : QOk R Q225 := qcons_ok t225 Q224_ok
/-! impl.reckoned -/
def g219_0 (x0 : Int) (x1 : Int) : Int := IntKind.wrap IntKind.i64 (↑(BitVec.toNat (BitVec.ofInt (64 : Nat) x1 &&& BitVec.ofInt (64 : Nat) (IntKind.wrap IntKind.i64 (g218_0 x0 - (1 : Int))))) : Int)
def g219_1 (x0 : Int) (x1 : Int) (x2 : Int) : Int := IntKind.wrap IntKind.i64 (↑(BitVec.toNat (BitVec.ofInt (64 : Nat) (IntKind.wrap IntKind.i64 (↑(BitVec.toNat (BitVec.ofInt (64 : Nat) (g224_0 (x1 != IntKind.wrap IntKind.i64 (↑(BitVec.toNat (BitVec.ofInt (64 : Nat) x1 &&& BitVec.ofInt (64 : Nat) (IntKind.wrap IntKind.i64 (g218_0 x0 - (1 : Int))))) : Int)) (17 : Int)) ||| BitVec.ofInt (64 : Nat) (g224_0 (x2 != g157_0 x0 (IntKind.wrap IntKind.i64 (↑(BitVec.toNat (BitVec.ofInt (64 : Nat) x1 &&& BitVec.ofInt (64 : Nat) (IntKind.wrap IntKind.i64 (g218_0 x0 - (1 : Int))))) : Int))) (2 : Int)))) : Int)) ||| BitVec.ofInt (64 : Nat) (g225_0 x0 (IntKind.wrap IntKind.i64 (↑(BitVec.toNat (BitVec.ofInt (64 : Nat) x1 &&& BitVec.ofInt (64 : Nat) (IntKind.wrap IntKind.i64 (g218_0 x0 - (1 : Int))))) : Int))))) : Int)
theorem k219 (x0 : Int) (x1 : Int) (x2 : Int) (h : (decide ((0 : Int) ≤ IntKind.wrap IntKind.i64 ((8 : Int) * x0))) = true) : (decide ((0 : Int) ≤ IntKind.wrap IntKind.i64 ((8 : Int) * x0)) && true && (decide ((0 : Int) ≤ IntKind.wrap IntKind.i64 ((8 : Int) * x0)) && true && (decide ((0 : Int) ≤ IntKind.wrap IntKind.i64 ((8 : Int) * x0)) && true && true)) && true) = true := by
  have h0 := h
  simp only [h0, Bool.and_true, Bool.true_and, Bool.or_true, Bool.true_or, Bool.or_false, Bool.false_or, Bool.and_self, Bool.cond_self, Bool.not_true, Bool.not_false, Bool.false_and, Bool.and_false, u64_dec, Nat.zero_add, Nat.le_refl, decide_true, eq_self, List.drop_zero, List.take_length, Bool.not_not, bif_tf, bif_ft]
theorem e219 (x0 : Int) (x1 : Int) (x2 : Int) : fnT Q225 [] [] 0 F219 [.one (.lit (.int .i64 x0)), .one (.lit (.int .i64 x1)), .one (.lit (.int .i64 x2))] [] = some ((SV.tup [SV.one (T.lit (Value.int IntKind.i64 (g219_0 x0 x1))), SV.one (T.lit (Value.int IntKind.i64 (g219_1 x0 x1 x2)))], []), decide ((0 : Int) ≤ IntKind.wrap IntKind.i64 ((8 : Int) * x0)) && true && (decide ((0 : Int) ≤ IntKind.wrap IntKind.i64 ((8 : Int) * x0)) && true && (decide ((0 : Int) ≤ IntKind.wrap IntKind.i64 ((8 : Int) * x0)) && true && true)) && true) := by kernel_rfl
def q219 : List SV → List Blk → Option ((SV × List Blk) × Bool)
  | [.one (.lit (.int .i64 x0)), .one (.lit (.int .i64 x1)), .one (.lit (.int .i64 x2))], [] => some ((SV.tup [SV.one (T.lit (Value.int IntKind.i64 (g219_0 x0 x1))), SV.one (T.lit (Value.int IntKind.i64 (g219_1 x0 x1 x2)))], []), decide ((0 : Int) ≤ IntKind.wrap IntKind.i64 ((8 : Int) * x0)))
  | _, _ => none
theorem t219 (args : List SV) (hp : List Blk) (r : SV × List Blk) (h : q219 args hp = some (r, true)) : R 219 args hp = some r := by
  unfold q219 at h
  split at h
  · rename_i x0 x1 x2; exact R_fn at219 0 (fnT_run Q225_ok (okTrans (e219 x0 x1 x2) (k219 x0 x1 x2) h))
  · simp at h
noncomputable def Q219 : Qt := qcons 219 q219 Q225
theorem Q219_ok : QOk R Q219 := qcons_ok t219 Q225_ok
/-! impl.subFlags -/
def g155_0 (x0 : Int) (x1 : Int) (x2 : Int) (x3 : Int) : Int := g219_0 x0 (IntKind.wrap IntKind.i64 (IntKind.wrap IntKind.i64 (x2 - x3) - x1))
def g155_1 (x0 : Int) (x1 : Int) (x2 : Int) (x3 : Int) : Int := g219_1 x0 (IntKind.wrap IntKind.i64 (IntKind.wrap IntKind.i64 (x2 - x3) - x1)) (IntKind.wrap IntKind.i64 (IntKind.wrap IntKind.i64 (g157_0 x0 x2 - g157_0 x0 x3) - x1))
theorem k155 (x0 : Int) (x1 : Int) (x2 : Int) (x3 : Int) (h : (decide ((0 : Int) ≤ IntKind.wrap IntKind.i64 ((8 : Int) * x0))) = true) : (decide ((0 : Int) ≤ IntKind.wrap IntKind.i64 ((8 : Int) * x0)) && (decide ((0 : Int) ≤ IntKind.wrap IntKind.i64 ((8 : Int) * x0)) && (decide ((0 : Int) ≤ IntKind.wrap IntKind.i64 ((8 : Int) * x0)) && true)) && true && true) = true := by
  have h0 := h
  simp only [h0, Bool.and_true, Bool.true_and, Bool.or_true, Bool.true_or, Bool.or_false, Bool.false_or, Bool.and_self, Bool.cond_self, Bool.not_true, Bool.not_false, Bool.false_and, Bool.and_false, u64_dec, Nat.zero_add, Nat.le_refl, decide_true, eq_self, List.drop_zero, List.take_length, Bool.not_not, bif_tf, bif_ft]
theorem e155 (x0 : Int) (x1 : Int) (x2 : Int) (x3 : Int) : fnT Q219 [] [] 0 F155 [.one (.lit (.int .i64 x0)), .one (.lit (.int .i64 x1)), .one (.lit (.int .i64 x2)), .one (.lit (.int .i64 x3))] [] = some ((SV.tup [SV.one (T.lit (Value.int IntKind.i64 (g155_0 x0 x1 x2 x3))), SV.one (T.lit (Value.int IntKind.i64 (g155_1 x0 x1 x2 x3)))], []), decide ((0 : Int) ≤ IntKind.wrap IntKind.i64 ((8 : Int) * x0)) && (decide ((0 : Int) ≤ IntKind.wrap IntKind.i64 ((8 : Int) * x0)) && (decide ((0 : Int) ≤ IntKind.wrap IntKind.i64 ((8 : Int) * x0)) && true)) && true && true) := by kernel_rfl
def q155 : List SV → List Blk → Option ((SV × List Blk) × Bool)
  | [.one (.lit (.int .i64 x0)), .one (.lit (.int .i64 x1)), .one (.lit (.int .i64 x2)), .one (.lit (.int .i64 x3))], [] => some ((SV.tup [SV.one (T.lit (Value.int IntKind.i64 (g155_0 x0 x1 x2 x3))), SV.one (T.lit (Value.int IntKind.i64 (g155_1 x0 x1 x2 x3)))], []), decide ((0 : Int) ≤ IntKind.wrap IntKind.i64 ((8 : Int) * x0)))
  | _, _ => none
theorem t155 (args : List SV) (hp : List Blk) (r : SV × List Blk) (h : q155 args hp = some (r, true)) : R 155 args hp = some r := by
  unfold q155 at h
  split at h
  · rename_i x0 x1 x2 x3; exact R_fn at155 0 (fnT_run Q219_ok (okTrans (e155 x0 x1 x2 x3) (k155 x0 x1 x2 x3) h))
  · simp at h
noncomputable def Q155 : Qt := qcons 155 q155 Q219
theorem Q155_ok : QOk R Q155 := qcons_ok t155 Q219_ok
/-! impl.cmpFlags -/
def g184_0 (x0 : Int) (x1 : Int) (x2 : Int) (x3 : Int) : Int := IntKind.wrap IntKind.i64 (↑(BitVec.toNat (BitVec.ofInt (64 : Nat) (IntKind.wrap IntKind.i64 (↑(BitVec.toNat (BitVec.ofInt (64 : Nat) (g155_1 x0 (0 : Int) x2 x3) &&& ~~~BitVec.ofInt (64 : Nat) (16 : Int))) : Int)) ||| BitVec.ofInt (64 : Nat) (IntKind.wrap IntKind.i64 (↑(BitVec.toNat (BitVec.ofInt (64 : Nat) x1 &&& BitVec.ofInt (64 : Nat) (16 : Int))) : Int)))) : Int)
theorem k184 (x0 : Int) (x1 : Int) (x2 : Int) (x3 : Int) (h : (decide ((0 : Int) ≤ IntKind.wrap IntKind.i64 ((8 : Int) * x0))) = true) : (decide ((0 : Int) ≤ IntKind.wrap IntKind.i64 ((8 : Int) * x0)) && true && true && true) = true := by
  have h0 := h
  simp only [h0, Bool.and_true, Bool.true_and, Bool.or_true, Bool.true_or, Bool.or_false, Bool.false_or, Bool.and_self, Bool.cond_self, Bool.not_true, Bool.not_false, Bool.false_and, Bool.and_false, u64_dec, Nat.zero_add, Nat.le_refl, decide_true, eq_self, List.drop_zero, List.take_length, Bool.not_not, bif_tf, bif_ft]
theorem e184 (x0 : Int) (x1 : Int) (x2 : Int) (x3 : Int) : fnT Q155 [] [] 0 F184 [.one (.lit (.int .i64 x0)), .one (.lit (.int .i64 x1)), .one (.lit (.int .i64 x2)), .one (.lit (.int .i64 x3))] [] = some ((SV.one (T.lit (Value.int IntKind.i64 (g184_0 x0 x1 x2 x3))), []), decide ((0 : Int) ≤ IntKind.wrap IntKind.i64 ((8 : Int) * x0)) && true && true && true) := by kernel_rfl
def q184 : List SV → List Blk → Option ((SV × List Blk) × Bool)
  | [.one (.lit (.int .i64 x0)), .one (.lit (.int .i64 x1)), .one (.lit (.int .i64 x2)), .one (.lit (.int .i64 x3))], [] => some ((SV.one (T.lit (Value.int IntKind.i64 (g184_0 x0 x1 x2 x3))), []), decide ((0 : Int) ≤ IntKind.wrap IntKind.i64 ((8 : Int) * x0)))
  | _, _ => none
theorem t184 (args : List SV) (hp : List Blk) (r : SV × List Blk) (h : q184 args hp = some (r, true)) : R 184 args hp = some r := by
  unfold q184 at h
  split at h
  · rename_i x0 x1 x2 x3; exact R_fn at184 0 (fnT_run Q155_ok (okTrans (e184 x0 x1 x2 x3) (k184 x0 x1 x2 x3) h))
  · simp at h
noncomputable def Q184 : Qt := qcons 184 q184 Q155
theorem Q184_ok : QOk R Q184 := qcons_ok t184 Q155_ok
/-! impl.CmpFlags -/
def g97_0 (x0 : Int) (x1 : Int) (x2 : Int) (x3 : Int) : Int := bif bif bif !g183_0 x1 then true else !g151_0 x0 x2 then true else !g151_0 x0 x3 then (0 : Int) else g184_0 x0 x1 x2 x3
def r97_1 (x0 : Int) (x1 : Int) (x2 : Int) (x3 : Int) : Bool := bif bif bif !g183_0 x1 then true else !g151_0 x0 x2 then true else !g151_0 x0 x3 then false else true
def g97_1 (x0 : Int) (x1 : Int) (x2 : Int) (x3 : Int) : Bool := !bif bif !g183_0 x1 then true else !g151_0 x0 x2 then true else !g151_0 x0 x3
theorem c97_1 (x0 : Int) (x1 : Int) (x2 : Int) (x3 : Int) : r97_1 x0 x1 x2 x3 = g97_1 x0 x1 x2 x3 := by simp only [r97_1, g97_1, Bool.cond_self, bif_tf, bif_ft, Bool.not_not, List.drop_zero, List.take_length]
theorem k97 (x0 : Int) (x1 : Int) (x2 : Int) (x3 : Int) (h : (decide ((0 : Int) ≤ IntKind.wrap IntKind.i64 ((8 : Int) * x0)) || bif bif !g183_0 x1 then true else !g151_0 x0 x2 then true else !g151_0 x0 x3) = true) : ((decide ((0 : Int) ≤ IntKind.wrap IntKind.i64 ((8 : Int) * x0)) && true && true || bif bif !g183_0 x1 then true else !g151_0 x0 x2 then true else !g151_0 x0 x3) && true) = true := by
  have h0 := h
  simp only [h0, Bool.and_true, Bool.true_and, Bool.or_true, Bool.true_or, Bool.or_false, Bool.false_or, Bool.and_self, Bool.cond_self, Bool.not_true, Bool.not_false, Bool.false_and, Bool.and_false, u64_dec, Nat.zero_add, Nat.le_refl, decide_true, eq_self, List.drop_zero, List.take_length, Bool.not_not, bif_tf, bif_ft]
theorem d97 (x0 : Int) (x1 : Int) (x2 : Int) (x3 : Int) : fnT Q184 [] [] 0 F97 [.one (.lit (.int .i64 x0)), .one (.lit (.int .i64 x1)), .one (.lit (.int .i64 x2)), .one (.lit (.int .i64 x3))] [] = some ((SV.tup [SV.one (T.lit (Value.int IntKind.i64 (g97_0 x0 x1 x2 x3))), SV.one (T.lit (Value.bool (r97_1 x0 x1 x2 x3)))], []), (decide ((0 : Int) ≤ IntKind.wrap IntKind.i64 ((8 : Int) * x0)) && true && true || bif bif !g183_0 x1 then true else !g151_0 x0 x2 then true else !g151_0 x0 x3) && true) := by kernel_rfl
theorem e97 (x0 : Int) (x1 : Int) (x2 : Int) (x3 : Int) : fnT Q184 [] [] 0 F97 [.one (.lit (.int .i64 x0)), .one (.lit (.int .i64 x1)), .one (.lit (.int .i64 x2)), .one (.lit (.int .i64 x3))] [] = some ((SV.tup [SV.one (T.lit (Value.int IntKind.i64 (g97_0 x0 x1 x2 x3))), SV.one (T.lit (Value.bool (g97_1 x0 x1 x2 x3)))], []), (decide ((0 : Int) ≤ IntKind.wrap IntKind.i64 ((8 : Int) * x0)) && true && true || bif bif !g183_0 x1 then true else !g151_0 x0 x2 then true else !g151_0 x0 x3) && true) := by rw [d97, c97_1]
def q97 : List SV → List Blk → Option ((SV × List Blk) × Bool)
  | [.one (.lit (.int .i64 x0)), .one (.lit (.int .i64 x1)), .one (.lit (.int .i64 x2)), .one (.lit (.int .i64 x3))], [] => some ((SV.tup [SV.one (T.lit (Value.int IntKind.i64 (g97_0 x0 x1 x2 x3))), SV.one (T.lit (Value.bool (g97_1 x0 x1 x2 x3)))], []), decide ((0 : Int) ≤ IntKind.wrap IntKind.i64 ((8 : Int) * x0)) || bif bif !g183_0 x1 then true else !g151_0 x0 x2 then true else !g151_0 x0 x3)
  | _, _ => none
theorem t97 (args : List SV) (hp : List Blk) (r : SV × List Blk) (h : q97 args hp = some (r, true)) : R 97 args hp = some r := by
  unfold q97 at h
  split at h
  · rename_i x0 x1 x2 x3; exact R_fn at97 0 (fnT_run Q184_ok (okTrans (e97 x0 x1 x2 x3) (k97 x0 x1 x2 x3) h))
  · simp at h
noncomputable def Q97 : Qt := qcons 97 q97 Q184
theorem Q97_ok : QOk R Q97 := qcons_ok t97 Q184_ok
/-! impl.testCond$1 -/
def g222_0 (x0 : Int) (c0 : Int) : Bool := IntKind.wrap IntKind.i64 (↑(BitVec.toNat (BitVec.ofInt (64 : Nat) c0 &&& BitVec.ofInt (64 : Nat) x0)) : Int) != (0 : Int)
theorem e222 (x0 : Int) (c0 : Int) : fnT Q97 [(4, [.int .i64])] [] 0 F222 [.one (.lit (.int .i64 x0)), .one (.ptr 0 0 0)] [.box [.lit (.int .i64 c0)]] = some ((SV.one (T.lit (Value.bool (g222_0 x0 c0))), [Blk.box [T.lit (Value.int IntKind.i64 c0)]]), true) := by kernel_rfl
def q222 : List SV → List Blk → Option ((SV × List Blk) × Bool)
  | [.one (.lit (.int .i64 x0)), .one (.ptr 0 0 0)], [.box [.lit (.int .i64 c0)]] => some ((SV.one (T.lit (Value.bool (g222_0 x0 c0))), [Blk.box [T.lit (Value.int IntKind.i64 c0)]]), true)
  | _, _ => none
theorem t222 (args : List SV) (hp : List Blk) (r : SV × List Blk) (h : q222 args hp = some (r, true)) : R 222 args hp = some r := by
  unfold q222 at h
  split at h
  · rename_i x0 c0; exact R_fn at222 0 (fnT_run Q97_ok ((e222 x0 c0).trans h))
  · simp at h
noncomputable def Q222 : Qt := qcons 222 q222 Q97
theorem Q222_ok : QOk R Q222 := qcons_ok t222 Q97_ok
/-! impl.testCond -/
def g169_0 (x0 : Int) (x1 : Int) : Bool := (bif IntKind.wrap IntKind.i64 (↑(BitVec.toNat (BitVec.ofInt (64 : Nat) x0 &&& ~~~BitVec.ofInt (64 : Nat) (1 : Int))) : Int) == (2 : Int) then !g222_0 (5 : Int) x1 else bif IntKind.wrap IntKind.i64 (↑(BitVec.toNat (BitVec.ofInt (64 : Nat) x0 &&& ~~~BitVec.ofInt (64 : Nat) (1 : Int))) : Int) == (4 : Int) then !g222_0 (1 : Int) x1 else bif IntKind.wrap IntKind.i64 (↑(BitVec.toNat (BitVec.ofInt (64 : Nat) x0 &&& ~~~BitVec.ofInt (64 : Nat) (1 : Int))) : Int) == (6 : Int) then !g222_0 (4 : Int) x1 else bif IntKind.wrap IntKind.i64 (↑(BitVec.toNat (BitVec.ofInt (64 : Nat) x0 &&& ~~~BitVec.ofInt (64 : Nat) (1 : Int))) : Int) == (8 : Int) then !g222_0 (2 : Int) x1 else bif IntKind.wrap IntKind.i64 (↑(BitVec.toNat (BitVec.ofInt (64 : Nat) x0 &&& ~~~BitVec.ofInt (64 : Nat) (1 : Int))) : Int) == (10 : Int) then !g222_0 (8 : Int) x1 else bif IntKind.wrap IntKind.i64 (↑(BitVec.toNat (BitVec.ofInt (64 : Nat) x0 &&& ~~~BitVec.ofInt (64 : Nat) (1 : Int))) : Int) == (12 : Int) then g222_0 (8 : Int) x1 == g222_0 (2 : Int) x1 else bif IntKind.wrap IntKind.i64 (↑(BitVec.toNat (BitVec.ofInt (64 : Nat) x0 &&& ~~~BitVec.ofInt (64 : Nat) (1 : Int))) : Int) == (14 : Int) then bif !g222_0 (4 : Int) x1 then g222_0 (8 : Int) x1 == g222_0 (2 : Int) x1 else false else true) == (Int.tmod x0 (2 : Int) == (0 : Int))
theorem e169 (x0 : Int) (x1 : Int) : fnT Q222 [] [] 0 F169 [.one (.lit (.int .i64 x0)), .one (.lit (.int .i64 x1))] [] = some ((SV.one (T.lit (Value.bool (g169_0 x0 x1))), []), true) := by kernel_rfl
def q169 : List SV → List Blk → Option ((SV × List Blk) × Bool)
  | [.one (.lit (.int .i64 x0)), .one (.lit (.int .i64 x1))], [] => some ((SV.one (T.lit (Value.bool (g169_0 x0 x1))), []), true)
  | _, _ => none
theorem t169 (args : List SV) (hp : List Blk) (r : SV × List Blk) (h : q169 args hp = some (r, true)) : R 169 args hp = some r := by
  unfold q169 at h
  split at h
  · rename_i x0 x1; exact R_fn at169 0 (fnT_run Q222_ok ((e169 x0 x1).trans h))
  · simp at h
noncomputable def Q169 : Qt := qcons 169 q169 Q222
theorem Q169_ok : QOk R Q169 := qcons_ok t169 Q222_ok
/-! impl.CondFor -/
def s68_0 (v0 : List Row) (v1 : Int) (v2 : Int) : St := ⟨[(8, .one (.lit (.int .i64 v1))), (10, .one (.sl 0 0 (List.length v0))), (22, .one (.lit (.int .i64 v2)))], [.lst 1 v0]⟩
def x68_0 (v0 : List Row) (v1 : Int) (v2 : Int) : List (Ex × Bool × Tr) := [(Ex.brk (0 : Nat), !decide (v2 < (16 : Int)), Tr.leaf { sl := [((8 : Nat), SV.one (T.lit (Value.int IntKind.i64 v1))), ((10 : Nat), SV.one (T.sl (0 : Nat) (0 : Nat) (List.length v0))), ((22 : Nat), SV.one (T.lit (Value.int IntKind.i64 v2))), ((23 : Nat), SV.one (T.lit (Value.bool (decide (v2 < (16 : Int))))))], hp := [Blk.lst (1 : Nat) v0] })]
def u68_0 (v0 : List Row) (v1 : Int) (v2 : Int) : St := { sl := [((8 : Nat), SV.one (T.lit (Value.int IntKind.i64 v1))), ((10 : Nat), SV.one (T.sl (2 : Nat) (0 : Nat) (List.length (List.take (List.length v0) (List.drop (0 : Nat) v0) ++ [[T.lit (Value.bool (g169_0 v2 v1))]])))), ((22 : Nat), SV.one (T.lit (Value.int IntKind.i64 (IntKind.wrap IntKind.i64 (v2 + (1 : Int))))))], hp := [Blk.dead, Blk.lst (1 : Nat) [[T.lit (Value.bool (g169_0 v2 v1))]], Blk.lst (1 : Nat) (List.take (List.length v0) (List.drop (0 : Nat) v0) ++ [[T.lit (Value.bool (g169_0 v2 v1))]])] }
def y68_0 (v0 : List Row) (v1 : Int) (v2 : Int) : Bool := decide ((0 : Nat) + List.length v0 = List.length v0) && (decide ((List.length v0 + (1 : Nat)) * (1 : Nat) ≤ (140737488355328 : Nat)) && decide (List.length v0 + (1 : Nat) ≤ (140737488355328 : Nat))) || !decide (v2 < (16 : Int))
theorem hy68_0 (v0 : List Row) (v1 : Int) (v2 : Int) : (decide ((0 : Nat) + List.length v0 ≤ List.length v0) && (decide ((0 : Nat) + (1 : Nat) ≤ (1 : Nat)) && (decide ((0 : Nat) + List.length v0 = List.length v0) && (decide ((List.length (List.take (List.length v0) (List.drop (0 : Nat) v0)) + (1 : Nat)) * (1 : Nat) ≤ (140737488355328 : Nat)) && decide (List.length (List.take (List.length v0) (List.drop (0 : Nat) v0)) + (1 : Nat) ≤ (140737488355328 : Nat))))) && true && true || !decide (v2 < (16 : Int))) = y68_0 v0 v1 v2 := by simp only [y68_0, List.drop_zero, List.take_length, Nat.zero_add, Nat.le_refl, Int.le_refl, decide_true, eq_self, ri_len, List.length_cons, List.length_nil, List.length_append, Nat.reduceAdd, u64_dec, Bool.and_self, Bool.true_and, Bool.and_true, Bool.or_true, Bool.true_or, Bool.or_false, Bool.false_or, Bool.cond_self, Bool.not_true, Bool.not_false, Bool.not_not, bif_tf, bif_ft]
def z68_0 (v0 : List Row) (v1 : Int) (v2 : Int) : Bool := ((!decide (v2 < (16 : Int))) || false)
def L68_0 : Nat → List Row → Int → Int → Option (List Row × Int × Int)
  | 0, _, _, _ => none
  | k + 1, v0, v1, v2 => bif y68_0 v0 v1 v2 then bif z68_0 v0 v1 v2 then some (v0, v1, v2) else L68_0 k (v0 ++ [[T.lit (Value.bool (g169_0 v2 v1))]]) (v1) (IntKind.wrap IntKind.i64 (v2 + (1 : Int))) else none
theorem hb68_0 (n : Nat) (v0 : List Row) (v1 : Int) (v2 : Int) : Go.Zq.evt Q169 [] [] lqN 0 n F68b0 (s68_0 v0 v1 v2) = some (⟨x68_0 v0 v1 v2, some (.leaf (u68_0 v0 v1 v2))⟩, y68_0 v0 v1 v2) := by
  rw [← hy68_0 v0 v1 v2]
  kernel_rfl
theorem hc68_0 (v0 : List Row) (v1 : Int) (v2 : Int) : canonS 0 [8, 10, 22] (u68_0 v0 v1 v2) = some (s68_0 (v0 ++ [[T.lit (Value.bool (g169_0 v2 v1))]]) (v1) (IntKind.wrap IntKind.i64 (v2 + (1 : Int))), true) := by
  have e : canonS 0 [8, 10, 22] (u68_0 v0 v1 v2) = some ({ sl := [((8 : Nat), SV.one (T.lit (Value.int IntKind.i64 v1))), ((10 : Nat), SV.one (T.sl (0 : Nat) (0 : Nat) (List.length (List.take (List.length v0) (List.drop (0 : Nat) v0) ++ [[T.lit (Value.bool (g169_0 v2 v1))]])))), ((22 : Nat), SV.one (T.lit (Value.int IntKind.i64 (IntKind.wrap IntKind.i64 (v2 + (1 : Int))))))], hp := [Blk.lst (1 : Nat) (List.take (List.length (List.take (List.length v0) (List.drop (0 : Nat) v0) ++ [[T.lit (Value.bool (g169_0 v2 v1))]])) (List.drop (0 : Nat) (List.take (List.length v0) (List.drop (0 : Nat) v0) ++ [[T.lit (Value.bool (g169_0 v2 v1))]])))] }, decide ((0 : Nat) + List.length (List.take (List.length v0) (List.drop (0 : Nat) v0) ++ [[T.lit (Value.bool (g169_0 v2 v1))]]) ≤ List.length (List.take (List.length v0) (List.drop (0 : Nat) v0) ++ [[T.lit (Value.bool (g169_0 v2 v1))]])) && true && (decide (List.length (List.take (List.length v0) (List.drop (0 : Nat) v0) ++ [[T.lit (Value.bool (g169_0 v2 v1))]]) = List.length (List.take (List.length v0) (List.drop (0 : Nat) v0) ++ [[T.lit (Value.bool (g169_0 v2 v1))]])) && true)) := by kernel_rfl
  rw [e]
  simp only [s68_0, len_cond, take_cond, List.drop_zero, List.take_length, Nat.zero_add, Nat.le_refl, decide_true, eq_self, Bool.and_self, Bool.true_and, Bool.and_true]
def w68_0_0 (n : Nat) (v0 : List Row) (v1 : Int) (v2 : Int) : List Row := ((L68_0 n v0 v1 v2).getD (default, default, default)).1
def w68_0_1 (n : Nat) (v0 : List Row) (v1 : Int) (v2 : Int) : Int := ((L68_0 n v0 v1 v2).getD (default, default, default)).2.1
def w68_0_2 (n : Nat) (v0 : List Row) (v1 : Int) (v2 : Int) : Int := ((L68_0 n v0 v1 v2).getD (default, default, default)).2.2
theorem li68_0 (n : Nat) : ∀ (v0 : List Row) (v1 : Int) (v2 : Int) (w : List Row × Int × Int), L68_0 n v0 v1 v2 = some w → w.2.1 = v1 := by
  induction n with
  | zero => intro v0 v1 v2 w h; simp [L68_0] at h
  | succ k ih =>
    intro v0 v1 v2 w h
    unfold L68_0 at h
    cases hy : y68_0 v0 v1 v2
    · rw [hy] at h; simp at h
    · rw [hy, cond_true] at h
      cases hz : z68_0 v0 v1 v2
      · rw [hz, cond_false] at h
        exact ih _ _ _ w h
      · rw [hz, cond_true] at h
        obtain rfl := Option.some.inj h
        simp only [and_self]
def lq68_0 (n : Nat) (σ : St) : Option (O × Bool) :=
  match canonS 0 [8, 10, 22] σ with
  | some (⟨[(8, .one (.lit (.int .i64 v1))), (10, .one (.sl 0 0 l0)), (22, .one (.lit (.int .i64 v2)))], [.lst 1 v0]⟩, c) => some (⟨x68_0 (w68_0_0 n v0 v1 v2) v1 (w68_0_2 n v0 v1 v2), none⟩, (c && decide (l0 = List.length v0)) && (L68_0 n v0 v1 v2).isSome)
  | _ => none
theorem lt68_0 (n : Nat) : Tells (lq68_0 n) (evc R 0 n (.loop [8, 10, 22] F68b0)) := fun σ σr o h hl => by
  unfold lq68_0 at h
  split at h
  · rename_i v1 l0 v2 v0 c hs
    have hk : (c && decide (l0 = List.length v0)) && (L68_0 n v0 v1 v2).isSome = true := by
      have := congrArg (Option.map (·.2)) h
      simpa using this
    obtain ⟨ho, -⟩ := and_t hk
    obtain ⟨ho, e0⟩ := and_t ho
    have e0 := of_decide_eq_true e0
    subst e0
    simp only [decide_true, Bool.and_true] at h
    have hsome : (L68_0 n v0 v1 v2).isSome = true := by
      have := congrArg (Option.map (·.2)) h
      simp only [Option.map_some, Option.some.injEq, Bool.and_eq_true] at this
      exact this.2
    obtain ⟨w, hw⟩ := Option.isSome_iff_exists.1 hsome
    have hi := li68_0 n v0 v1 v2 w hw
    have ex : x68_0 (w68_0_0 n v0 v1 v2) v1 (w68_0_2 n v0 v1 v2) = x68_0 (((L68_0 n v0 v1 v2).getD (default, default, default)).1) (((L68_0 n v0 v1 v2).getD (default, default, default)).2.1) (((L68_0 n v0 v1 v2).getD (default, default, default)).2.2) := by simp only [w68_0_0, w68_0_2, hw, Option.getD_some, hi]
    rw [ex] at h
    exact lq_tells (V := List Row × Int × Int) (f := Go.Zq.evt Q169 [] [] lqN 0 n F68b0) (st := fun v => s68_0 v.1 v.2.1 v.2.2) (ν := fun v => u68_0 v.1 v.2.1 v.2.2) (ob := (fun v => ⟨x68_0 v.1 v.2.1 v.2.2, some (.leaf (u68_0 v.1 v.2.1 v.2.2))⟩)) (okb := fun v => y68_0 v.1 v.2.1 v.2.2) (next := fun v => (fun v0 v1 v2 => (v0 ++ [[T.lit (Value.bool (g169_0 v2 v1))]], v1, IntKind.wrap IntKind.i64 (v2 + (1 : Int)))) v.1 v.2.1 v.2.2)
      (evt_tells Q169_ok (by simp only [F68, F68b0, Loops, and_self, and_true])) (fun v => hb68_0 n v.1 v.2.1 v.2.2) (fun _ => rfl) (fun v _ _ => hc68_0 v.1 v.2.1 v.2.2) (L := fun k v => L68_0 k v.1 v.2.1 v.2.2) (fun _ => rfl) (fun _ _ => rfl) (v := (v0, v1, v2)) (d := (default, default, default)) hs h hl
  · simp at h
def lq68x0 (n : Nat) : Lq := fun live σ => if live = [8, 10, 22] then lq68_0 n σ else none
def r68_0 (x0 : Int) (x1 : Int) (x2 : Int) : Bool := bif !g97_1 x0 (0 : Int) x1 x2 then false else true
def g68_0 (x0 : Int) (x1 : Int) (x2 : Int) : Bool := g97_1 x0 (0 : Int) x1 x2
theorem c68_0 (x0 : Int) (x1 : Int) (x2 : Int) : r68_0 x0 x1 x2 = g68_0 x0 x1 x2 := by simp only [r68_0, g68_0, Bool.cond_self, bif_tf, bif_ft, Bool.not_not, List.drop_zero, List.take_length]
def r68_1 (x0 : Int) (x1 : Int) (x2 : Int) : List Row := bif !g97_1 x0 (0 : Int) x1 x2 then [] else List.take (List.length (w68_0_0 (70 : Nat) [] (g97_0 x0 (0 : Int) x1 x2) (0 : Int))) (List.drop (0 : Nat) (w68_0_0 (70 : Nat) [] (g97_0 x0 (0 : Int) x1 x2) (0 : Int)))
def g68_1 (x0 : Int) (x1 : Int) (x2 : Int) : List Row := bif !g97_1 x0 (0 : Int) x1 x2 then [] else w68_0_0 (70 : Nat) [] (g97_0 x0 (0 : Int) x1 x2) (0 : Int)
theorem c68_1 (x0 : Int) (x1 : Int) (x2 : Int) : r68_1 x0 x1 x2 = g68_1 x0 x1 x2 := by simp only [r68_1, g68_1, Bool.cond_self, bif_tf, bif_ft, Bool.not_not, List.drop_zero, List.take_length]
theorem n68_0 (x0 : Int) (x1 : Int) (x2 : Int) : (bif !g97_1 x0 (0 : Int) x1 x2 then (0 : Nat) else List.length (w68_0_0 (70 : Nat) [] (g97_0 x0 (0 : Int) x1 x2) (0 : Int))) = List.length (g68_1 x0 x1 x2) := by simp only [g68_0, g68_1, len_cond, List.length_nil, ri_len, List.length_cons, List.drop_zero, List.take_length, Nat.reduceAdd, Bool.cond_self, Bool.not_not, bif_tf, bif_ft]
theorem k68 (x0 : Int) (x1 : Int) (x2 : Int) (h : (decide ((0 : Int) ≤ IntKind.wrap IntKind.i64 ((8 : Int) * x0)) || bif !g151_0 x0 x1 then true else !g151_0 x0 x2) = true) : ((decide ((0 : Int) ≤ IntKind.wrap IntKind.i64 ((8 : Int) * x0)) || bif !g151_0 x0 x1 then true else !g151_0 x0 x2) && true && true && (decide ((0 : Nat) + List.length (w68_0_0 (70 : Nat) [] (g97_0 x0 (0 : Int) x1 x2) (0 : Int)) ≤ List.length (w68_0_0 (70 : Nat) [] (g97_0 x0 (0 : Int) x1 x2) (0 : Int))) && true && (decide (List.length (w68_0_0 (70 : Nat) [] (g97_0 x0 (0 : Int) x1 x2) (0 : Int)) = List.length (w68_0_0 (70 : Nat) [] (g97_0 x0 (0 : Int) x1 x2) (0 : Int))) && true) || !g97_1 x0 (0 : Int) x1 x2)) = true := by
  have h0 := h
  simp only [h0, Bool.and_true, Bool.true_and, Bool.or_true, Bool.true_or, Bool.or_false, Bool.false_or, Bool.and_self, Bool.cond_self, Bool.not_true, Bool.not_false, Bool.false_and, Bool.and_false, u64_dec, Nat.zero_add, Nat.le_refl, decide_true, eq_self, List.drop_zero, List.take_length, Bool.not_not, bif_tf, bif_ft]
theorem d68 (x0 : Int) (x1 : Int) (x2 : Int) : fnL Q169 [] [] (lq68x0 70) 70 F68 [.one (.lit (.int .i64 x0)), .one (.lit (.int .i64 x1)), .one (.lit (.int .i64 x2))] [] = some ((SV.tup [SV.one (T.sl (0 : Nat) (0 : Nat) (bif !g97_1 x0 (0 : Int) x1 x2 then (0 : Nat) else List.length (w68_0_0 (70 : Nat) [] (g97_0 x0 (0 : Int) x1 x2) (0 : Int)))), SV.one (T.lit (Value.bool (r68_0 x0 x1 x2)))], [Blk.lst (1 : Nat) (r68_1 x0 x1 x2)]), (decide ((0 : Int) ≤ IntKind.wrap IntKind.i64 ((8 : Int) * x0)) || bif !g151_0 x0 x1 then true else !g151_0 x0 x2) && true && true && (decide ((0 : Nat) + List.length (w68_0_0 (70 : Nat) [] (g97_0 x0 (0 : Int) x1 x2) (0 : Int)) ≤ List.length (w68_0_0 (70 : Nat) [] (g97_0 x0 (0 : Int) x1 x2) (0 : Int))) && true && (decide (List.length (w68_0_0 (70 : Nat) [] (g97_0 x0 (0 : Int) x1 x2) (0 : Int)) = List.length (w68_0_0 (70 : Nat) [] (g97_0 x0 (0 : Int) x1 x2) (0 : Int))) && true) || !g97_1 x0 (0 : Int) x1 x2)) := by kernel_rfl
theorem e68 (x0 : Int) (x1 : Int) (x2 : Int) : fnL Q169 [] [] (lq68x0 70) 70 F68 [.one (.lit (.int .i64 x0)), .one (.lit (.int .i64 x1)), .one (.lit (.int .i64 x2))] [] = some ((SV.tup [SV.one (T.sl (0 : Nat) (0 : Nat) (List.length (g68_1 x0 x1 x2))), SV.one (T.lit (Value.bool (g68_0 x0 x1 x2)))], [Blk.lst (1 : Nat) (g68_1 x0 x1 x2)]), (decide ((0 : Int) ≤ IntKind.wrap IntKind.i64 ((8 : Int) * x0)) || bif !g151_0 x0 x1 then true else !g151_0 x0 x2) && true && true && (decide ((0 : Nat) + List.length (w68_0_0 (70 : Nat) [] (g97_0 x0 (0 : Int) x1 x2) (0 : Int)) ≤ List.length (w68_0_0 (70 : Nat) [] (g97_0 x0 (0 : Int) x1 x2) (0 : Int))) && true && (decide (List.length (w68_0_0 (70 : Nat) [] (g97_0 x0 (0 : Int) x1 x2) (0 : Int)) = List.length (w68_0_0 (70 : Nat) [] (g97_0 x0 (0 : Int) x1 x2) (0 : Int))) && true) || !g97_1 x0 (0 : Int) x1 x2)) := by rw [d68, c68_0, c68_1, n68_0 x0 x1 x2]
def q68 : List SV → List Blk → Option ((SV × List Blk) × Bool)
  | [.one (.lit (.int .i64 x0)), .one (.lit (.int .i64 x1)), .one (.lit (.int .i64 x2))], [] => some ((SV.tup [SV.one (T.sl (0 : Nat) (0 : Nat) (List.length (g68_1 x0 x1 x2))), SV.one (T.lit (Value.bool (g68_0 x0 x1 x2)))], [Blk.lst (1 : Nat) (g68_1 x0 x1 x2)]), decide ((0 : Int) ≤ IntKind.wrap IntKind.i64 ((8 : Int) * x0)) || bif !g151_0 x0 x1 then true else !g151_0 x0 x2)
  | _, _ => none
theorem t68 (args : List SV) (hp : List Blk) (r : SV × List Blk) (h : q68 args hp = some (r, true)) : R 68 args hp = some r := by
  unfold q68 at h
  split at h
  · rename_i x0 x1 x2; exact R_fn at68 70 (fnL_run Q169_ok (by simp only [F68, F68b0, Loops, true_and, and_true]; first | trivial | (repeat' apply And.intro) <;> first | trivial  | exact fun σ σr o h hl => lt68_0 _ σ σr o h hl) (okTrans (e68 x0 x1 x2) (k68 x0 x1 x2) h))
  · simp at h
noncomputable def Q68 : Qt := qcons 68 q68 Q169
theorem Q68_ok : QOk R Q68 := qcons_ok t68 Q169_ok
/-! spec.l1In -/
def g144_0 (x0 : Int) (x1 : Int) (x2 : Int) : Bool := bif decide (x0 ≥ x1) then decide (x0 ≤ x2) else false
theorem e144 (x0 : Int) (x1 : Int) (x2 : Int) : fnT Q68 [] [] 0 F144 [.one (.lit (.int .i64 x0)), .one (.lit (.int .i64 x1)), .one (.lit (.int .i64 x2))] [] = some ((SV.one (T.lit (Value.bool (g144_0 x0 x1 x2))), []), true) := by kernel_rfl
def q144 : List SV → List Blk → Option ((SV × List Blk) × Bool)
  | [.one (.lit (.int .i64 x0)), .one (.lit (.int .i64 x1)), .one (.lit (.int .i64 x2))], [] => some ((SV.one (T.lit (Value.bool (g144_0 x0 x1 x2))), []), true)
  | _, _ => none
theorem t144 (args : List SV) (hp : List Blk) (r : SV × List Blk) (h : q144 args hp = some (r, true)) : R 144 args hp = some r := by
  unfold q144 at h
  split at h
  · rename_i x0 x1 x2; exact R_fn at144 0 (fnT_run Q68_ok ((e144 x0 x1 x2).trans h))
  · simp at h
noncomputable def Q144 : Qt := qcons 144 q144 Q68
theorem Q144_ok : QOk R Q144 := qcons_ok t144 Q68_ok
/-! spec.l1Size -/
def g201_0 (x0 : Int) : Bool := bif x0 == (1 : Int) then true else x0 == (2 : Int)
theorem e201 (x0 : Int) : fnT Q144 [] [] 0 F201 [.one (.lit (.int .i64 x0))] [] = some ((SV.one (T.lit (Value.bool (g201_0 x0))), []), true) := by kernel_rfl
def q201 : List SV → List Blk → Option ((SV × List Blk) × Bool)
  | [.one (.lit (.int .i64 x0))], [] => some ((SV.one (T.lit (Value.bool (g201_0 x0))), []), true)
  | _, _ => none
theorem t201 (args : List SV) (hp : List Blk) (r : SV × List Blk) (h : q201 args hp = some (r, true)) : R 201 args hp = some r := by
  unfold q201 at h
  split at h
  · rename_i x0; exact R_fn at201 0 (fnT_run Q144_ok ((e201 x0).trans h))
  · simp at h
noncomputable def Q201 : Qt := qcons 201 q201 Q144
theorem Q201_ok : QOk R Q201 := qcons_ok t201 Q144_ok
/-! spec.l1Top -/
def g220_0 (x0 : Int) : Int := IntKind.wrap IntKind.i64 ((1 : Int) * (2 : Int) ^ min (Int.toNat (IntKind.wrap IntKind.u64 (IntKind.wrap IntKind.i64 ((8 : Int) * x0)))) (64 : Nat))
theorem k220 (x0 : Int) (h : (true) = true) : (decide ((0 : Int) ≤ IntKind.wrap IntKind.u64 (IntKind.wrap IntKind.i64 ((8 : Int) * x0))) && true && true && true) = true := by
  simp only [Bool.and_true, Bool.true_and, Bool.or_true, Bool.true_or, Bool.or_false, Bool.false_or, Bool.and_self, Bool.cond_self, Bool.not_true, Bool.not_false, Bool.false_and, Bool.and_false, u64_dec, Nat.zero_add, Nat.le_refl, decide_true, eq_self, List.drop_zero, List.take_length, Bool.not_not, bif_tf, bif_ft]
theorem e220 (x0 : Int) : fnT Q201 [] [] 0 F220 [.one (.lit (.int .i64 x0))] [] = some ((SV.one (T.lit (Value.int IntKind.i64 (g220_0 x0))), []), decide ((0 : Int) ≤ IntKind.wrap IntKind.u64 (IntKind.wrap IntKind.i64 ((8 : Int) * x0))) && true && true && true) := by kernel_rfl
def q220 : List SV → List Blk → Option ((SV × List Blk) × Bool)
  | [.one (.lit (.int .i64 x0))], [] => some ((SV.one (T.lit (Value.int IntKind.i64 (g220_0 x0))), []), true)
  | _, _ => none
theorem t220 (args : List SV) (hp : List Blk) (r : SV × List Blk) (h : q220 args hp = some (r, true)) : R 220 args hp = some r := by
  unfold q220 at h
  split at h
  · rename_i x0; exact R_fn at220 0 (fnT_run Q201_ok (okTrans (e220 x0) (k220 x0) h))
  · simp at h
noncomputable def Q220 : Qt := qcons 220 q220 Q201
theorem Q220_ok : QOk R Q220 := qcons_ok t220 Q201_ok
/-! spec.l1Value -/
def g181_0 (x0 : Int) (x1 : Int) : Bool := bif g201_0 x0 then g144_0 x1 (0 : Int) (IntKind.wrap IntKind.i64 (g220_0 x0 - (1 : Int))) else false
theorem e181 (x0 : Int) (x1 : Int) : fnT Q220 [] [] 0 F181 [.one (.lit (.int .i64 x0)), .one (.lit (.int .i64 x1))] [] = some ((SV.one (T.lit (Value.bool (g181_0 x0 x1))), []), true) := by kernel_rfl
def q181 : List SV → List Blk → Option ((SV × List Blk) × Bool)
  | [.one (.lit (.int .i64 x0)), .one (.lit (.int .i64 x1))], [] => some ((SV.one (T.lit (Value.bool (g181_0 x0 x1))), []), true)
  | _, _ => none
theorem t181 (args : List SV) (hp : List Blk) (r : SV × List Blk) (h : q181 args hp = some (r, true)) : R 181 args hp = some r := by
  unfold q181 at h
  split at h
  · rename_i x0 x1; exact R_fn at181 0 (fnT_run Q220_ok ((e181 x0 x1).trans h))
  · simp at h
noncomputable def Q181 : Qt := qcons 181 q181 Q220
theorem Q181_ok : QOk R Q181 := qcons_ok t181 Q220_ok
/-! spec.l1Two -/
def g153_0 (x0 : Int) (x1 : Int) (x2 : Int) (x3 : Int) : Bool := bif bif g181_0 x0 x2 then g181_0 x0 x3 else false then g144_0 x1 (0 : Int) (1 : Int) else false
theorem e153 (x0 : Int) (x1 : Int) (x2 : Int) (x3 : Int) : fnT Q181 [] [] 0 F153 [.one (.lit (.int .i64 x0)), .one (.lit (.int .i64 x1)), .one (.lit (.int .i64 x2)), .one (.lit (.int .i64 x3))] [] = some ((SV.one (T.lit (Value.bool (g153_0 x0 x1 x2 x3))), []), true) := by kernel_rfl
def q153 : List SV → List Blk → Option ((SV × List Blk) × Bool)
  | [.one (.lit (.int .i64 x0)), .one (.lit (.int .i64 x1)), .one (.lit (.int .i64 x2)), .one (.lit (.int .i64 x3))], [] => some ((SV.one (T.lit (Value.bool (g153_0 x0 x1 x2 x3))), []), true)
  | _, _ => none
theorem t153 (args : List SV) (hp : List Blk) (r : SV × List Blk) (h : q153 args hp = some (r, true)) : R 153 args hp = some r := by
  unfold q153 at h
  split at h
  · rename_i x0 x1 x2 x3; exact R_fn at153 0 (fnT_run Q181_ok ((e153 x0 x1 x2 x3).trans h))
  · simp at h
noncomputable def Q153 : Qt := qcons 153 q153 Q181
theorem Q153_ok : QOk R Q153 := qcons_ok t153 Q181_ok
/-! spec.l1Flag -/
def g168_0 (x0 : Bool) (x1 : Int) : Int := bif x0 then x1 else (0 : Int)
theorem e168 (x0 : Bool) (x1 : Int) : fnT Q153 [] [] 0 F168 [.one (.lit (.bool x0)), .one (.lit (.int .i64 x1))] [] = some ((SV.one (T.lit (Value.int IntKind.i64 (g168_0 x0 x1))), []), true) := by kernel_rfl
def q168 : List SV → List Blk → Option ((SV × List Blk) × Bool)
  | [.one (.lit (.bool x0)), .one (.lit (.int .i64 x1))], [] => some ((SV.one (T.lit (Value.int IntKind.i64 (g168_0 x0 x1))), []), true)
  | _, _ => none
theorem t168 (args : List SV) (hp : List Blk) (r : SV × List Blk) (h : q168 args hp = some (r, true)) : R 168 args hp = some r := by
  unfold q168 at h
  split at h
  · rename_i x0 x1; exact R_fn at168 0 (fnT_run Q153_ok ((e168 x0 x1).trans h))
  · simp at h
noncomputable def Q168 : Qt := qcons 168 q168 Q153
theorem Q168_ok : QOk R Q168 := qcons_ok t168 Q153_ok
/-! spec.l1Signed -/
def g182_0 (x0 : Int) (x1 : Int) : Int := bif decide (x1 ≥ IntKind.wrap IntKind.i64 (Int.tdiv (g220_0 x0) (2 : Int))) then IntKind.wrap IntKind.i64 (x1 - g220_0 x0) else x1
theorem e182 (x0 : Int) (x1 : Int) : fnT Q168 [] [] 0 F182 [.one (.lit (.int .i64 x0)), .one (.lit (.int .i64 x1))] [] = some ((SV.one (T.lit (Value.int IntKind.i64 (g182_0 x0 x1))), []), true) := by kernel_rfl
def q182 : List SV → List Blk → Option ((SV × List Blk) × Bool)
  | [.one (.lit (.int .i64 x0)), .one (.lit (.int .i64 x1))], [] => some ((SV.one (T.lit (Value.int IntKind.i64 (g182_0 x0 x1))), []), true)
  | _, _ => none
theorem t182 (args : List SV) (hp : List Blk) (r : SV × List Blk) (h : q182 args hp = some (r, true)) : R 182 args hp = some r := by
  unfold q182 at h
  split at h
  · rename_i x0 x1; exact R_fn at182 0 (fnT_run Q168_ok ((e182 x0 x1).trans h))
  · simp at h
noncomputable def Q182 : Qt := qcons 182 q182 Q168
theorem Q182_ok : QOk R Q182 := qcons_ok t182 Q168_ok
/-! spec.l1Zn -/
def g221_0 (x0 : Int) (x1 : Int) : Int := IntKind.wrap IntKind.i64 (↑(BitVec.toNat (BitVec.ofInt (64 : Nat) (g168_0 (x1 == (0 : Int)) (4 : Int)) ||| BitVec.ofInt (64 : Nat) (g168_0 (decide (x1 ≥ IntKind.wrap IntKind.i64 (Int.tdiv (g220_0 x0) (2 : Int)))) (8 : Int)))) : Int)
theorem e221 (x0 : Int) (x1 : Int) : fnT Q182 [] [] 0 F221 [.one (.lit (.int .i64 x0)), .one (.lit (.int .i64 x1))] [] = some ((SV.one (T.lit (Value.int IntKind.i64 (g221_0 x0 x1))), []), true) := by kernel_rfl
def q221 : List SV → List Blk → Option ((SV × List Blk) × Bool)
  | [.one (.lit (.int .i64 x0)), .one (.lit (.int .i64 x1))], [] => some ((SV.one (T.lit (Value.int IntKind.i64 (g221_0 x0 x1))), []), true)
  | _, _ => none
theorem t221 (args : List SV) (hp : List Blk) (r : SV × List Blk) (h : q221 args hp = some (r, true)) : R 221 args hp = some r := by
  unfold q221 at h
  split at h
  · rename_i x0 x1; exact R_fn at221 0 (fnT_run Q182_ok ((e221 x0 x1).trans h))
  · simp at h
noncomputable def Q221 : Qt := qcons 221 q221 Q182
theorem Q221_ok : QOk R Q221 := qcons_ok t221 Q182_ok
/-! spec.l1Sub -/
def g156_0 (x0 : Int) (x1 : Int) (x2 : Int) (x3 : Int) : Int := IntKind.wrap IntKind.i64 (↑(BitVec.toNat (BitVec.ofInt (64 : Nat) (IntKind.wrap IntKind.i64 (IntKind.wrap IntKind.i64 (x2 - x3) - x1)) &&& BitVec.ofInt (64 : Nat) (IntKind.wrap IntKind.i64 (g220_0 x0 - (1 : Int))))) : Int)
def g156_1 (x0 : Int) (x1 : Int) (x2 : Int) (x3 : Int) : Int := IntKind.wrap IntKind.i64 (↑(BitVec.toNat (BitVec.ofInt (64 : Nat) (IntKind.wrap IntKind.i64 (↑(BitVec.toNat (BitVec.ofInt (64 : Nat) (g168_0 (decide (IntKind.wrap IntKind.i64 (IntKind.wrap IntKind.i64 (x2 - x3) - x1) < (0 : Int))) (17 : Int)) ||| BitVec.ofInt (64 : Nat) (g168_0 (IntKind.wrap IntKind.i64 (IntKind.wrap IntKind.i64 (g182_0 x0 x2 - g182_0 x0 x3) - x1) != g182_0 x0 (IntKind.wrap IntKind.i64 (↑(BitVec.toNat (BitVec.ofInt (64 : Nat) (IntKind.wrap IntKind.i64 (IntKind.wrap IntKind.i64 (x2 - x3) - x1)) &&& BitVec.ofInt (64 : Nat) (IntKind.wrap IntKind.i64 (g220_0 x0 - (1 : Int))))) : Int))) (2 : Int)))) : Int)) ||| BitVec.ofInt (64 : Nat) (g221_0 x0 (IntKind.wrap IntKind.i64 (↑(BitVec.toNat (BitVec.ofInt (64 : Nat) (IntKind.wrap IntKind.i64 (IntKind.wrap IntKind.i64 (x2 - x3) - x1)) &&& BitVec.ofInt (64 : Nat) (IntKind.wrap IntKind.i64 (g220_0 x0 - (1 : Int))))) : Int))))) : Int)
theorem e156 (x0 : Int) (x1 : Int) (x2 : Int) (x3 : Int) : fnT Q221 [] [] 0 F156 [.one (.lit (.int .i64 x0)), .one (.lit (.int .i64 x1)), .one (.lit (.int .i64 x2)), .one (.lit (.int .i64 x3))] [] = some ((SV.tup [SV.one (T.lit (Value.int IntKind.i64 (g156_0 x0 x1 x2 x3))), SV.one (T.lit (Value.int IntKind.i64 (g156_1 x0 x1 x2 x3)))], []), true) := by kernel_rfl
def q156 : List SV → List Blk → Option ((SV × List Blk) × Bool)
  | [.one (.lit (.int .i64 x0)), .one (.lit (.int .i64 x1)), .one (.lit (.int .i64 x2)), .one (.lit (.int .i64 x3))], [] => some ((SV.tup [SV.one (T.lit (Value.int IntKind.i64 (g156_0 x0 x1 x2 x3))), SV.one (T.lit (Value.int IntKind.i64 (g156_1 x0 x1 x2 x3)))], []), true)
  | _, _ => none
theorem t156 (args : List SV) (hp : List Blk) (r : SV × List Blk) (h : q156 args hp = some (r, true)) : R 156 args hp = some r := by
  unfold q156 at h
  split at h
  · rename_i x0 x1 x2 x3; exact R_fn at156 0 (fnT_run Q221_ok ((e156 x0 x1 x2 x3).trans h))
  · simp at h
noncomputable def Q156 : Qt := qcons 156 q156 Q221
theorem Q156_ok : QOk R Q156 := qcons_ok t156 Q221_ok
/-! spec.l1Cmp -/
def g170_0 (x0 : Int) (x1 : Int) (x2 : Int) (x3 : Int) : Int := IntKind.wrap IntKind.i64 (↑(BitVec.toNat (BitVec.ofInt (64 : Nat) (IntKind.wrap IntKind.i64 (↑(BitVec.toNat (BitVec.ofInt (64 : Nat) (g156_1 x0 (0 : Int) x2 x3) &&& BitVec.ofInt (64 : Nat) (15 : Int))) : Int)) ||| BitVec.ofInt (64 : Nat) (IntKind.wrap IntKind.i64 (↑(BitVec.toNat (BitVec.ofInt (64 : Nat) x1 &&& BitVec.ofInt (64 : Nat) (16 : Int))) : Int)))) : Int)
theorem e170 (x0 : Int) (x1 : Int) (x2 : Int) (x3 : Int) : fnT Q156 [] [] 0 F170 [.one (.lit (.int .i64 x0)), .one (.lit (.int .i64 x1)), .one (.lit (.int .i64 x2)), .one (.lit (.int .i64 x3))] [] = some ((SV.one (T.lit (Value.int IntKind.i64 (g170_0 x0 x1 x2 x3))), []), true) := by kernel_rfl
def q170 : List SV → List Blk → Option ((SV × List Blk) × Bool)
  | [.one (.lit (.int .i64 x0)), .one (.lit (.int .i64 x1)), .one (.lit (.int .i64 x2)), .one (.lit (.int .i64 x3))], [] => some ((SV.one (T.lit (Value.int IntKind.i64 (g170_0 x0 x1 x2 x3))), []), true)
  | _, _ => none
theorem t170 (args : List SV) (hp : List Blk) (r : SV × List Blk) (h : q170 args hp = some (r, true)) : R 170 args hp = some r := by
  unfold q170 at h
  split at h
  · rename_i x0 x1 x2 x3; exact R_fn at170 0 (fnT_run Q156_ok ((e170 x0 x1 x2 x3).trans h))
  · simp at h
noncomputable def Q170 : Qt := qcons 170 q170 Q156
theorem Q170_ok : QOk R Q170 := qcons_ok t170 Q156_ok
/-! spec.l8Even -/
def g223_0 (x0 : Int) (x1 : Int) : Bool := bif x0 == (2 : Int) then IntKind.wrap IntKind.i64 (↑(BitVec.toNat (BitVec.ofInt (64 : Nat) x1 &&& BitVec.ofInt (64 : Nat) (5 : Int))) : Int) == (0 : Int) else bif x0 == (4 : Int) && !x0 == (2 : Int) then IntKind.wrap IntKind.i64 (↑(BitVec.toNat (BitVec.ofInt (64 : Nat) x1 &&& BitVec.ofInt (64 : Nat) (1 : Int))) : Int) == (0 : Int) else bif x0 == (6 : Int) && !x0 == (4 : Int) && !x0 == (2 : Int) then IntKind.wrap IntKind.i64 (↑(BitVec.toNat (BitVec.ofInt (64 : Nat) x1 &&& BitVec.ofInt (64 : Nat) (4 : Int))) : Int) == (0 : Int) else bif x0 == (8 : Int) && !x0 == (6 : Int) && !x0 == (4 : Int) && !x0 == (2 : Int) then IntKind.wrap IntKind.i64 (↑(BitVec.toNat (BitVec.ofInt (64 : Nat) x1 &&& BitVec.ofInt (64 : Nat) (2 : Int))) : Int) == (0 : Int) else bif x0 == (10 : Int) && !x0 == (8 : Int) && !x0 == (6 : Int) && !x0 == (4 : Int) && !x0 == (2 : Int) then IntKind.wrap IntKind.i64 (↑(BitVec.toNat (BitVec.ofInt (64 : Nat) x1 &&& BitVec.ofInt (64 : Nat) (8 : Int))) : Int) == (0 : Int) else bif x0 == (12 : Int) && !x0 == (10 : Int) && !x0 == (8 : Int) && !x0 == (6 : Int) && !x0 == (4 : Int) && !x0 == (2 : Int) then (IntKind.wrap IntKind.i64 (↑(BitVec.toNat (BitVec.ofInt (64 : Nat) x1 &&& BitVec.ofInt (64 : Nat) (8 : Int))) : Int) != (0 : Int)) == (IntKind.wrap IntKind.i64 (↑(BitVec.toNat (BitVec.ofInt (64 : Nat) x1 &&& BitVec.ofInt (64 : Nat) (2 : Int))) : Int) != (0 : Int)) else bif x0 == (14 : Int) && !x0 == (12 : Int) && !x0 == (10 : Int) && !x0 == (8 : Int) && !x0 == (6 : Int) && !x0 == (4 : Int) && !x0 == (2 : Int) then bif (IntKind.wrap IntKind.i64 (↑(BitVec.toNat (BitVec.ofInt (64 : Nat) x1 &&& BitVec.ofInt (64 : Nat) (8 : Int))) : Int) != (0 : Int)) == (IntKind.wrap IntKind.i64 (↑(BitVec.toNat (BitVec.ofInt (64 : Nat) x1 &&& BitVec.ofInt (64 : Nat) (2 : Int))) : Int) != (0 : Int)) then IntKind.wrap IntKind.i64 (↑(BitVec.toNat (BitVec.ofInt (64 : Nat) x1 &&& BitVec.ofInt (64 : Nat) (4 : Int))) : Int) == (0 : Int) else false else true
theorem e223 (x0 : Int) (x1 : Int) : fnT Q170 [] [] 0 F223 [.one (.lit (.int .i64 x0)), .one (.lit (.int .i64 x1))] [] = some ((SV.one (T.lit (Value.bool (g223_0 x0 x1))), []), true) := by kernel_rfl
def q223 : List SV → List Blk → Option ((SV × List Blk) × Bool)
  | [.one (.lit (.int .i64 x0)), .one (.lit (.int .i64 x1))], [] => some ((SV.one (T.lit (Value.bool (g223_0 x0 x1))), []), true)
  | _, _ => none
theorem t223 (args : List SV) (hp : List Blk) (r : SV × List Blk) (h : q223 args hp = some (r, true)) : R 223 args hp = some r := by
  unfold q223 at h
  split at h
  · rename_i x0 x1; exact R_fn at223 0 (fnT_run Q170_ok ((e223 x0 x1).trans h))
  · simp at h
noncomputable def Q223 : Qt := qcons 223 q223 Q170
theorem Q223_ok : QOk R Q223 := qcons_ok t223 Q170_ok
/-! spec.l8Test -/
def g171_0 (x0 : Int) (x1 : Int) : Bool := g223_0 (IntKind.wrap IntKind.i64 (↑(BitVec.toNat (BitVec.ofInt (64 : Nat) x0 &&& ~~~BitVec.ofInt (64 : Nat) (1 : Int))) : Int)) x1 == (IntKind.wrap IntKind.i64 (↑(BitVec.toNat (BitVec.ofInt (64 : Nat) x0 &&& BitVec.ofInt (64 : Nat) (1 : Int))) : Int) == (0 : Int))
theorem e171 (x0 : Int) (x1 : Int) : fnT Q223 [] [] 0 F171 [.one (.lit (.int .i64 x0)), .one (.lit (.int .i64 x1))] [] = some ((SV.one (T.lit (Value.bool (g171_0 x0 x1))), []), true) := by kernel_rfl
def q171 : List SV → List Blk → Option ((SV × List Blk) × Bool)
  | [.one (.lit (.int .i64 x0)), .one (.lit (.int .i64 x1))], [] => some ((SV.one (T.lit (Value.bool (g171_0 x0 x1))), []), true)
  | _, _ => none
theorem t171 (args : List SV) (hp : List Blk) (r : SV × List Blk) (h : q171 args hp = some (r, true)) : R 171 args hp = some r := by
  unfold q171 at h
  split at h
  · rename_i x0 x1; exact R_fn at171 0 (fnT_run Q223_ok ((e171 x0 x1).trans h))
  · simp at h
noncomputable def Q171 : Qt := qcons 171 q171 Q223
theorem Q171_ok : QOk R Q171 := qcons_ok t171 Q223_ok
/-! spec.CondFor -/
def s69_0 (v0 : List Row) (v1 : Int) (v2 : Int) : St := ⟨[(8, .one (.lit (.int .i64 v1))), (9, .one (.sl 0 0 (List.length v0))), (10, .one (.lit (.int .i64 v2)))], [.lst 1 v0]⟩
def x69_0 (v0 : List Row) (v1 : Int) (v2 : Int) : List (Ex × Bool × Tr) := [(Ex.brk (0 : Nat), !decide (v2 < (16 : Int)), Tr.leaf { sl := [((8 : Nat), SV.one (T.lit (Value.int IntKind.i64 v1))), ((9 : Nat), SV.one (T.sl (0 : Nat) (0 : Nat) (List.length v0))), ((10 : Nat), SV.one (T.lit (Value.int IntKind.i64 v2))), ((21 : Nat), SV.one (T.lit (Value.bool (decide (v2 < (16 : Int))))))], hp := [Blk.lst (1 : Nat) v0] })]
def u69_0 (v0 : List Row) (v1 : Int) (v2 : Int) : St := { sl := [((8 : Nat), SV.one (T.lit (Value.int IntKind.i64 v1))), ((9 : Nat), SV.one (T.sl (2 : Nat) (0 : Nat) (List.length (List.take (List.length v0) (List.drop (0 : Nat) v0) ++ [[T.lit (Value.bool (g171_0 v2 v1))]])))), ((10 : Nat), SV.one (T.lit (Value.int IntKind.i64 (IntKind.wrap IntKind.i64 (v2 + (1 : Int))))))], hp := [Blk.dead, Blk.lst (1 : Nat) [[T.lit (Value.bool (g171_0 v2 v1))]], Blk.lst (1 : Nat) (List.take (List.length v0) (List.drop (0 : Nat) v0) ++ [[T.lit (Value.bool (g171_0 v2 v1))]])] }
def y69_0 (v0 : List Row) (v1 : Int) (v2 : Int) : Bool := decide ((0 : Nat) + List.length v0 = List.length v0) && (decide ((List.length v0 + (1 : Nat)) * (1 : Nat) ≤ (140737488355328 : Nat)) && decide (List.length v0 + (1 : Nat) ≤ (140737488355328 : Nat))) || !decide (v2 < (16 : Int))
theorem hy69_0 (v0 : List Row) (v1 : Int) (v2 : Int) : (decide ((0 : Nat) + List.length v0 ≤ List.length v0) && (decide ((0 : Nat) + (1 : Nat) ≤ (1 : Nat)) && (decide ((0 : Nat) + List.length v0 = List.length v0) && (decide ((List.length (List.take (List.length v0) (List.drop (0 : Nat) v0)) + (1 : Nat)) * (1 : Nat) ≤ (140737488355328 : Nat)) && decide (List.length (List.take (List.length v0) (List.drop (0 : Nat) v0)) + (1 : Nat) ≤ (140737488355328 : Nat))))) && true && true || !decide (v2 < (16 : Int))) = y69_0 v0 v1 v2 := by simp only [y69_0, List.drop_zero, List.take_length, Nat.zero_add, Nat.le_refl, Int.le_refl, decide_true, eq_self, ri_len, List.length_cons, List.length_nil, List.length_append, Nat.reduceAdd, u64_dec, Bool.and_self, Bool.true_and, Bool.and_true, Bool.or_true, Bool.true_or, Bool.or_false, Bool.false_or, Bool.cond_self, Bool.not_true, Bool.not_false, Bool.not_not, bif_tf, bif_ft]
def z69_0 (v0 : List Row) (v1 : Int) (v2 : Int) : Bool := ((!decide (v2 < (16 : Int))) || false)
def L69_0 : Nat → List Row → Int → Int → Option (List Row × Int × Int)
  | 0, _, _, _ => none
  | k + 1, v0, v1, v2 => bif y69_0 v0 v1 v2 then bif z69_0 v0 v1 v2 then some (v0, v1, v2) else L69_0 k (v0 ++ [[T.lit (Value.bool (g171_0 v2 v1))]]) (v1) (IntKind.wrap IntKind.i64 (v2 + (1 : Int))) else none
theorem hb69_0 (n : Nat) (v0 : List Row) (v1 : Int) (v2 : Int) : Go.Zq.evt Q171 [] [] lqN 0 n F69b0 (s69_0 v0 v1 v2) = some (⟨x69_0 v0 v1 v2, some (.leaf (u69_0 v0 v1 v2))⟩, y69_0 v0 v1 v2) := by
  rw [← hy69_0 v0 v1 v2]
  kernel_rfl
theorem hc69_0 (v0 : List Row) (v1 : Int) (v2 : Int) : canonS 0 [8, 9, 10] (u69_0 v0 v1 v2) = some (s69_0 (v0 ++ [[T.lit (Value.bool (g171_0 v2 v1))]]) (v1) (IntKind.wrap IntKind.i64 (v2 + (1 : Int))), true) := by
  have e : canonS 0 [8, 9, 10] (u69_0 v0 v1 v2) = some ({ sl := [((8 : Nat), SV.one (T.lit (Value.int IntKind.i64 v1))), ((9 : Nat), SV.one (T.sl (0 : Nat) (0 : Nat) (List.length (List.take (List.length v0) (List.drop (0 : Nat) v0) ++ [[T.lit (Value.bool (g171_0 v2 v1))]])))), ((10 : Nat), SV.one (T.lit (Value.int IntKind.i64 (IntKind.wrap IntKind.i64 (v2 + (1 : Int))))))], hp := [Blk.lst (1 : Nat) (List.take (List.length (List.take (List.length v0) (List.drop (0 : Nat) v0) ++ [[T.lit (Value.bool (g171_0 v2 v1))]])) (List.drop (0 : Nat) (List.take (List.length v0) (List.drop (0 : Nat) v0) ++ [[T.lit (Value.bool (g171_0 v2 v1))]])))] }, decide ((0 : Nat) + List.length (List.take (List.length v0) (List.drop (0 : Nat) v0) ++ [[T.lit (Value.bool (g171_0 v2 v1))]]) ≤ List.length (List.take (List.length v0) (List.drop (0 : Nat) v0) ++ [[T.lit (Value.bool (g171_0 v2 v1))]])) && true && (decide (List.length (List.take (List.length v0) (List.drop (0 : Nat) v0) ++ [[T.lit (Value.bool (g171_0 v2 v1))]]) = List.length (List.take (List.length v0) (List.drop (0 : Nat) v0) ++ [[T.lit (Value.bool (g171_0 v2 v1))]])) && true)) := by kernel_rfl
  rw [e]
  simp only [s69_0, len_cond, take_cond, List.drop_zero, List.take_length, Nat.zero_add, Nat.le_refl, decide_true, eq_self, Bool.and_self, Bool.true_and, Bool.and_true]
def w69_0_0 (n : Nat) (v0 : List Row) (v1 : Int) (v2 : Int) : List Row := ((L69_0 n v0 v1 v2).getD (default, default, default)).1
def w69_0_1 (n : Nat) (v0 : List Row) (v1 : Int) (v2 : Int) : Int := ((L69_0 n v0 v1 v2).getD (default, default, default)).2.1
def w69_0_2 (n : Nat) (v0 : List Row) (v1 : Int) (v2 : Int) : Int := ((L69_0 n v0 v1 v2).getD (default, default, default)).2.2
theorem li69_0 (n : Nat) : ∀ (v0 : List Row) (v1 : Int) (v2 : Int) (w : List Row × Int × Int), L69_0 n v0 v1 v2 = some w → w.2.1 = v1 := by
  induction n with
  | zero => intro v0 v1 v2 w h; simp [L69_0] at h
  | succ k ih =>
    intro v0 v1 v2 w h
    unfold L69_0 at h
    cases hy : y69_0 v0 v1 v2
    · rw [hy] at h; simp at h
    · rw [hy, cond_true] at h
      cases hz : z69_0 v0 v1 v2
      · rw [hz, cond_false] at h
        exact ih _ _ _ w h
      · rw [hz, cond_true] at h
        obtain rfl := Option.some.inj h
        simp only [and_self]
def lq69_0 (n : Nat) (σ : St) : Option (O × Bool) :=
  match canonS 0 [8, 9, 10] σ with
  | some (⟨[(8, .one (.lit (.int .i64 v1))), (9, .one (.sl 0 0 l0)), (10, .one (.lit (.int .i64 v2)))], [.lst 1 v0]⟩, c) => some (⟨x69_0 (w69_0_0 n v0 v1 v2) v1 (w69_0_2 n v0 v1 v2), none⟩, (c && decide (l0 = List.length v0)) && (L69_0 n v0 v1 v2).isSome)
  | _ => none
theorem lt69_0 (n : Nat) : Tells (lq69_0 n) (evc R 0 n (.loop [8, 9, 10] F69b0)) := fun σ σr o h hl => by
  unfold lq69_0 at h
  split at h
  · rename_i v1 l0 v2 v0 c hs
    have hk : (c && decide (l0 = List.length v0)) && (L69_0 n v0 v1 v2).isSome = true := by
      have := congrArg (Option.map (·.2)) h
      simpa using this
    obtain ⟨ho, -⟩ := and_t hk
    obtain ⟨ho, e0⟩ := and_t ho
    have e0 := of_decide_eq_true e0
    subst e0
    simp only [decide_true, Bool.and_true] at h
    have hsome : (L69_0 n v0 v1 v2).isSome = true := by
      have := congrArg (Option.map (·.2)) h
      simp only [Option.map_some, Option.some.injEq, Bool.and_eq_true] at this
      exact this.2
    obtain ⟨w, hw⟩ := Option.isSome_iff_exists.1 hsome
    have hi := li69_0 n v0 v1 v2 w hw
    have ex : x69_0 (w69_0_0 n v0 v1 v2) v1 (w69_0_2 n v0 v1 v2) = x69_0 (((L69_0 n v0 v1 v2).getD (default, default, default)).1) (((L69_0 n v0 v1 v2).getD (default, default, default)).2.1) (((L69_0 n v0 v1 v2).getD (default, default, default)).2.2) := by simp only [w69_0_0, w69_0_2, hw, Option.getD_some, hi]
    rw [ex] at h
    exact lq_tells (V := List Row × Int × Int) (f := Go.Zq.evt Q171 [] [] lqN 0 n F69b0) (st := fun v => s69_0 v.1 v.2.1 v.2.2) (ν := fun v => u69_0 v.1 v.2.1 v.2.2) (ob := (fun v => ⟨x69_0 v.1 v.2.1 v.2.2, some (.leaf (u69_0 v.1 v.2.1 v.2.2))⟩)) (okb := fun v => y69_0 v.1 v.2.1 v.2.2) (next := fun v => (fun v0 v1 v2 => (v0 ++ [[T.lit (Value.bool (g171_0 v2 v1))]], v1, IntKind.wrap IntKind.i64 (v2 + (1 : Int)))) v.1 v.2.1 v.2.2)
      (evt_tells Q171_ok (by simp only [F69, F69b0, Loops, and_self, and_true])) (fun v => hb69_0 n v.1 v.2.1 v.2.2) (fun _ => rfl) (fun v _ _ => hc69_0 v.1 v.2.1 v.2.2) (L := fun k v => L69_0 k v.1 v.2.1 v.2.2) (fun _ => rfl) (fun _ _ => rfl) (v := (v0, v1, v2)) (d := (default, default, default)) hs h hl
  · simp at h
def lq69x0 (n : Nat) : Lq := fun live σ => if live = [8, 9, 10] then lq69_0 n σ else none
def r69_0 (x0 : Int) (x1 : Int) (x2 : Int) : Bool := bif !g153_0 x0 (0 : Int) x1 x2 then false else true
def g69_0 (x0 : Int) (x1 : Int) (x2 : Int) : Bool := g153_0 x0 (0 : Int) x1 x2
theorem c69_0 (x0 : Int) (x1 : Int) (x2 : Int) : r69_0 x0 x1 x2 = g69_0 x0 x1 x2 := by simp only [r69_0, g69_0, Bool.cond_self, bif_tf, bif_ft, Bool.not_not, List.drop_zero, List.take_length]
def r69_1 (x0 : Int) (x1 : Int) (x2 : Int) : List Row := bif !g153_0 x0 (0 : Int) x1 x2 then [] else List.take (List.length (w69_0_0 (70 : Nat) [] (g170_0 x0 (0 : Int) x1 x2) (0 : Int))) (List.drop (0 : Nat) (w69_0_0 (70 : Nat) [] (g170_0 x0 (0 : Int) x1 x2) (0 : Int)))
def g69_1 (x0 : Int) (x1 : Int) (x2 : Int) : List Row := bif !g153_0 x0 (0 : Int) x1 x2 then [] else w69_0_0 (70 : Nat) [] (g170_0 x0 (0 : Int) x1 x2) (0 : Int)
theorem c69_1 (x0 : Int) (x1 : Int) (x2 : Int) : r69_1 x0 x1 x2 = g69_1 x0 x1 x2 := by simp only [r69_1, g69_1, Bool.cond_self, bif_tf, bif_ft, Bool.not_not, List.drop_zero, List.take_length]
theorem n69_0 (x0 : Int) (x1 : Int) (x2 : Int) : (bif !g153_0 x0 (0 : Int) x1 x2 then (0 : Nat) else List.length (w69_0_0 (70 : Nat) [] (g170_0 x0 (0 : Int) x1 x2) (0 : Int))) = List.length (g69_1 x0 x1 x2) := by simp only [g69_0, g69_1, len_cond, List.length_nil, ri_len, List.length_cons, List.drop_zero, List.take_length, Nat.reduceAdd, Bool.cond_self, Bool.not_not, bif_tf, bif_ft]
theorem k69 (x0 : Int) (x1 : Int) (x2 : Int) (h : (true) = true) : (decide ((0 : Nat) + List.length (w69_0_0 (70 : Nat) [] (g170_0 x0 (0 : Int) x1 x2) (0 : Int)) ≤ List.length (w69_0_0 (70 : Nat) [] (g170_0 x0 (0 : Int) x1 x2) (0 : Int))) && true && (decide (List.length (w69_0_0 (70 : Nat) [] (g170_0 x0 (0 : Int) x1 x2) (0 : Int)) = List.length (w69_0_0 (70 : Nat) [] (g170_0 x0 (0 : Int) x1 x2) (0 : Int))) && true) || !g153_0 x0 (0 : Int) x1 x2) = true := by
  simp only [Bool.and_true, Bool.true_and, Bool.or_true, Bool.true_or, Bool.or_false, Bool.false_or, Bool.and_self, Bool.cond_self, Bool.not_true, Bool.not_false, Bool.false_and, Bool.and_false, u64_dec, Nat.zero_add, Nat.le_refl, decide_true, eq_self, List.drop_zero, List.take_length, Bool.not_not, bif_tf, bif_ft]
theorem d69 (x0 : Int) (x1 : Int) (x2 : Int) : fnL Q171 [] [] (lq69x0 70) 70 F69 [.one (.lit (.int .i64 x0)), .one (.lit (.int .i64 x1)), .one (.lit (.int .i64 x2))] [] = some ((SV.tup [SV.one (T.sl (0 : Nat) (0 : Nat) (bif !g153_0 x0 (0 : Int) x1 x2 then (0 : Nat) else List.length (w69_0_0 (70 : Nat) [] (g170_0 x0 (0 : Int) x1 x2) (0 : Int)))), SV.one (T.lit (Value.bool (r69_0 x0 x1 x2)))], [Blk.lst (1 : Nat) (r69_1 x0 x1 x2)]), decide ((0 : Nat) + List.length (w69_0_0 (70 : Nat) [] (g170_0 x0 (0 : Int) x1 x2) (0 : Int)) ≤ List.length (w69_0_0 (70 : Nat) [] (g170_0 x0 (0 : Int) x1 x2) (0 : Int))) && true && (decide (List.length (w69_0_0 (70 : Nat) [] (g170_0 x0 (0 : Int) x1 x2) (0 : Int)) = List.length (w69_0_0 (70 : Nat) [] (g170_0 x0 (0 : Int) x1 x2) (0 : Int))) && true) || !g153_0 x0 (0 : Int) x1 x2) := by kernel_rfl
theorem e69 (x0 : Int) (x1 : Int) (x2 : Int) : fnL Q171 [] [] (lq69x0 70) 70 F69 [.one (.lit (.int .i64 x0)), .one (.lit (.int .i64 x1)), .one (.lit (.int .i64 x2))] [] = some ((SV.tup [SV.one (T.sl (0 : Nat) (0 : Nat) (List.length (g69_1 x0 x1 x2))), SV.one (T.lit (Value.bool (g69_0 x0 x1 x2)))], [Blk.lst (1 : Nat) (g69_1 x0 x1 x2)]), decide ((0 : Nat) + List.length (w69_0_0 (70 : Nat) [] (g170_0 x0 (0 : Int) x1 x2) (0 : Int)) ≤ List.length (w69_0_0 (70 : Nat) [] (g170_0 x0 (0 : Int) x1 x2) (0 : Int))) && true && (decide (List.length (w69_0_0 (70 : Nat) [] (g170_0 x0 (0 : Int) x1 x2) (0 : Int)) = List.length (w69_0_0 (70 : Nat) [] (g170_0 x0 (0 : Int) x1 x2) (0 : Int))) && true) || !g153_0 x0 (0 : Int) x1 x2) := by rw [d69, c69_0, c69_1, n69_0 x0 x1 x2]
def q69 : List SV → List Blk → Option ((SV × List Blk) × Bool)
  | [.one (.lit (.int .i64 x0)), .one (.lit (.int .i64 x1)), .one (.lit (.int .i64 x2))], [] => some ((SV.tup [SV.one (T.sl (0 : Nat) (0 : Nat) (List.length (g69_1 x0 x1 x2))), SV.one (T.lit (Value.bool (g69_0 x0 x1 x2)))], [Blk.lst (1 : Nat) (g69_1 x0 x1 x2)]), true)
  | _, _ => none
theorem t69 (args : List SV) (hp : List Blk) (r : SV × List Blk) (h : q69 args hp = some (r, true)) : R 69 args hp = some r := by
  unfold q69 at h
  split at h
  · rename_i x0 x1 x2; exact R_fn at69 70 (fnL_run Q171_ok (by simp only [F69, F69b0, Loops, true_and, and_true]; first | trivial | (repeat' apply And.intro) <;> first | trivial  | exact fun σ σr o h hl => lt69_0 _ σ σr o h hl) (okTrans (e69 x0 x1 x2) (k69 x0 x1 x2) h))
  · simp at h
noncomputable def Q69 : Qt := qcons 69 q69 Q171
theorem Q69_ok : QOk R Q69 := qcons_ok t69 Q171_ok
/-! laws.sameBools -/
def s70_0 (v0 : Bool) (v1 : List Row) (v2 : Bool) (v3 : List Row) (v4 : Int) (v5 : Int) : St := ⟨[(0, .one (.imm v0 1 v1)), (1, .one (.imm v2 1 v3)), (12, .one (.lit (.int .i64 v4))), (13, .one (.lit (.int .i64 v5)))], []⟩
def x70_0 (v0 : Bool) (v1 : List Row) (v2 : Bool) (v3 : List Row) (v4 : Int) (v5 : Int) : List (Ex × Bool × Tr) := [(Ex.brk (0 : Nat), !decide (v5 < v4), Tr.leaf { sl := [((0 : Nat), SV.one (T.imm v0 (1 : Nat) v1)), ((1 : Nat), SV.one (T.imm v2 (1 : Nat) v3)), ((12 : Nat), SV.one (T.lit (Value.int IntKind.i64 v4))), ((13 : Nat), SV.one (T.lit (Value.int IntKind.i64 v5))), ((14 : Nat), SV.one (T.lit (Value.bool (decide (v5 < v4)))))], hp := [] }), (Ex.ret, !boolAt v1 (Int.toNat v5) (0 : Nat) == boolAt v3 (Int.toNat v5) (0 : Nat), Tr.leaf { sl := [((4 : Nat), SV.one (T.lit (Value.bool false)))], hp := [] })]
def u70_0 (v0 : Bool) (v1 : List Row) (v2 : Bool) (v3 : List Row) (v4 : Int) (v5 : Int) : St := { sl := [((0 : Nat), SV.one (T.imm v0 (1 : Nat) v1)), ((1 : Nat), SV.one (T.imm v2 (1 : Nat) v3)), ((12 : Nat), SV.one (T.lit (Value.int IntKind.i64 v4))), ((13 : Nat), SV.one (T.lit (Value.int IntKind.i64 (IntKind.wrap IntKind.i64 (v5 + (1 : Int))))))], hp := [] }
def y70_0 (v0 : Bool) (v1 : List Row) (v2 : Bool) (v3 : List Row) (v4 : Int) (v5 : Int) : Bool := inRow [Kd.bool] v1 v5 && inRow [Kd.bool] v3 v5 || !decide (v5 < v4)
theorem hy70_0 (v0 : Bool) (v1 : List Row) (v2 : Bool) (v3 : List Row) (v4 : Int) (v5 : Int) : (inRow [Kd.bool] v1 v5 && (inRow [Kd.bool] v3 v5 && true) && true && true || !decide (v5 < v4)) = y70_0 v0 v1 v2 v3 v4 v5 := by simp only [y70_0, List.drop_zero, List.take_length, Nat.zero_add, Nat.le_refl, Int.le_refl, decide_true, eq_self, ri_len, List.length_cons, List.length_nil, List.length_append, Nat.reduceAdd, u64_dec, Bool.and_self, Bool.true_and, Bool.and_true, Bool.or_true, Bool.true_or, Bool.or_false, Bool.false_or, Bool.cond_self, Bool.not_true, Bool.not_false, Bool.not_not, bif_tf, bif_ft]
def z70_0 (v0 : Bool) (v1 : List Row) (v2 : Bool) (v3 : List Row) (v4 : Int) (v5 : Int) : Bool := ((!decide (v5 < v4)) || ((!boolAt v1 (Int.toNat v5) (0 : Nat) == boolAt v3 (Int.toNat v5) (0 : Nat)) || false))
def L70_0 : Nat → Bool → List Row → Bool → List Row → Int → Int → Option (Bool × List Row × Bool × List Row × Int × Int)
  | 0, _, _, _, _, _, _ => none
  | k + 1, v0, v1, v2, v3, v4, v5 => bif y70_0 v0 v1 v2 v3 v4 v5 then bif z70_0 v0 v1 v2 v3 v4 v5 then some (v0, v1, v2, v3, v4, v5) else L70_0 k (v0) (v1) (v2) (v3) (v4) (IntKind.wrap IntKind.i64 (v5 + (1 : Int))) else none
theorem hb70_0 (n : Nat) (v0 : Bool) (v1 : List Row) (v2 : Bool) (v3 : List Row) (v4 : Int) (v5 : Int) : Go.Zq.evt Q69 [(18, [.bool]), (19, [.bool]), (22, [.bool]), (23, [.bool])] [] lqN 0 n F70b0 (s70_0 v0 v1 v2 v3 v4 v5) = some (⟨x70_0 v0 v1 v2 v3 v4 v5, some (.leaf (u70_0 v0 v1 v2 v3 v4 v5))⟩, y70_0 v0 v1 v2 v3 v4 v5) := by
  rw [← hy70_0 v0 v1 v2 v3 v4 v5]
  kernel_rfl
theorem hc70_0 (v0 : Bool) (v1 : List Row) (v2 : Bool) (v3 : List Row) (v4 : Int) (v5 : Int) : canonS 0 [0, 1, 12, 13] (u70_0 v0 v1 v2 v3 v4 v5) = some (s70_0 (v0) (v1) (v2) (v3) (v4) (IntKind.wrap IntKind.i64 (v5 + (1 : Int))), true) := by
  kernel_rfl
def w70_0_0 (n : Nat) (v0 : Bool) (v1 : List Row) (v2 : Bool) (v3 : List Row) (v4 : Int) (v5 : Int) : Bool := ((L70_0 n v0 v1 v2 v3 v4 v5).getD (default, default, default, default, default, default)).1
def w70_0_1 (n : Nat) (v0 : Bool) (v1 : List Row) (v2 : Bool) (v3 : List Row) (v4 : Int) (v5 : Int) : List Row := ((L70_0 n v0 v1 v2 v3 v4 v5).getD (default, default, default, default, default, default)).2.1
def w70_0_2 (n : Nat) (v0 : Bool) (v1 : List Row) (v2 : Bool) (v3 : List Row) (v4 : Int) (v5 : Int) : Bool := ((L70_0 n v0 v1 v2 v3 v4 v5).getD (default, default, default, default, default, default)).2.2.1
def w70_0_3 (n : Nat) (v0 : Bool) (v1 : List Row) (v2 : Bool) (v3 : List Row) (v4 : Int) (v5 : Int) : List Row := ((L70_0 n v0 v1 v2 v3 v4 v5).getD (default, default, default, default, default, default)).2.2.2.1
def w70_0_4 (n : Nat) (v0 : Bool) (v1 : List Row) (v2 : Bool) (v3 : List Row) (v4 : Int) (v5 : Int) : Int := ((L70_0 n v0 v1 v2 v3 v4 v5).getD (default, default, default, default, default, default)).2.2.2.2.1
def w70_0_5 (n : Nat) (v0 : Bool) (v1 : List Row) (v2 : Bool) (v3 : List Row) (v4 : Int) (v5 : Int) : Int := ((L70_0 n v0 v1 v2 v3 v4 v5).getD (default, default, default, default, default, default)).2.2.2.2.2
theorem li70_0 (n : Nat) : ∀ (v0 : Bool) (v1 : List Row) (v2 : Bool) (v3 : List Row) (v4 : Int) (v5 : Int) (w : Bool × List Row × Bool × List Row × Int × Int), L70_0 n v0 v1 v2 v3 v4 v5 = some w → w.1 = v0 ∧ w.2.1 = v1 ∧ w.2.2.1 = v2 ∧ w.2.2.2.1 = v3 ∧ w.2.2.2.2.1 = v4 := by
  induction n with
  | zero => intro v0 v1 v2 v3 v4 v5 w h; simp [L70_0] at h
  | succ k ih =>
    intro v0 v1 v2 v3 v4 v5 w h
    unfold L70_0 at h
    cases hy : y70_0 v0 v1 v2 v3 v4 v5
    · rw [hy] at h; simp at h
    · rw [hy, cond_true] at h
      cases hz : z70_0 v0 v1 v2 v3 v4 v5
      · rw [hz, cond_false] at h
        exact ih _ _ _ _ _ _ w h
      · rw [hz, cond_true] at h
        obtain rfl := Option.some.inj h
        simp only [and_self]
def lq70_0 (n : Nat) (σ : St) : Option (O × Bool) :=
  match canonS 0 [0, 1, 12, 13] σ with
  | some (⟨[(0, .one (.imm v0 1 v1)), (1, .one (.imm v2 1 v3)), (12, .one (.lit (.int .i64 v4))), (13, .one (.lit (.int .i64 v5)))], []⟩, c) => some (⟨x70_0 v0 v1 v2 v3 v4 (w70_0_5 n v0 v1 v2 v3 v4 v5), none⟩, (c) && (L70_0 n v0 v1 v2 v3 v4 v5).isSome)
  | _ => none
theorem lt70_0 (n : Nat) : Tells (lq70_0 n) (evc R 0 n (.loop [0, 1, 12, 13] F70b0)) := fun σ σr o h hl => by
  unfold lq70_0 at h
  split at h
  · rename_i v0 v1 v2 v3 v4 v5 c hs
    have hsome : (L70_0 n v0 v1 v2 v3 v4 v5).isSome = true := by
      have := congrArg (Option.map (·.2)) h
      simp only [Option.map_some, Option.some.injEq, Bool.and_eq_true] at this
      exact this.2
    obtain ⟨w, hw⟩ := Option.isSome_iff_exists.1 hsome
    have hi := li70_0 n v0 v1 v2 v3 v4 v5 w hw
    have ex : x70_0 v0 v1 v2 v3 v4 (w70_0_5 n v0 v1 v2 v3 v4 v5) = x70_0 (((L70_0 n v0 v1 v2 v3 v4 v5).getD (default, default, default, default, default, default)).1) (((L70_0 n v0 v1 v2 v3 v4 v5).getD (default, default, default, default, default, default)).2.1) (((L70_0 n v0 v1 v2 v3 v4 v5).getD (default, default, default, default, default, default)).2.2.1) (((L70_0 n v0 v1 v2 v3 v4 v5).getD (default, default, default, default, default, default)).2.2.2.1) (((L70_0 n v0 v1 v2 v3 v4 v5).getD (default, default, default, default, default, default)).2.2.2.2.1) (((L70_0 n v0 v1 v2 v3 v4 v5).getD (default, default, default, default, default, default)).2.2.2.2.2) := by simp only [w70_0_5, hw, Option.getD_some, hi]
    rw [ex] at h
    exact lq_tells (V := Bool × List Row × Bool × List Row × Int × Int) (f := Go.Zq.evt Q69 [(18, [.bool]), (19, [.bool]), (22, [.bool]), (23, [.bool])] [] lqN 0 n F70b0) (st := fun v => s70_0 v.1 v.2.1 v.2.2.1 v.2.2.2.1 v.2.2.2.2.1 v.2.2.2.2.2) (ν := fun v => u70_0 v.1 v.2.1 v.2.2.1 v.2.2.2.1 v.2.2.2.2.1 v.2.2.2.2.2) (ob := (fun v => ⟨x70_0 v.1 v.2.1 v.2.2.1 v.2.2.2.1 v.2.2.2.2.1 v.2.2.2.2.2, some (.leaf (u70_0 v.1 v.2.1 v.2.2.1 v.2.2.2.1 v.2.2.2.2.1 v.2.2.2.2.2))⟩)) (okb := fun v => y70_0 v.1 v.2.1 v.2.2.1 v.2.2.2.1 v.2.2.2.2.1 v.2.2.2.2.2) (next := fun v => (fun v0 v1 v2 v3 v4 v5 => (v0, v1, v2, v3, v4, IntKind.wrap IntKind.i64 (v5 + (1 : Int)))) v.1 v.2.1 v.2.2.1 v.2.2.2.1 v.2.2.2.2.1 v.2.2.2.2.2)
      (evt_tells Q69_ok (by simp only [F70, F70b0, Loops, and_self, and_true])) (fun v => hb70_0 n v.1 v.2.1 v.2.2.1 v.2.2.2.1 v.2.2.2.2.1 v.2.2.2.2.2) (fun _ => rfl) (fun v _ _ => hc70_0 v.1 v.2.1 v.2.2.1 v.2.2.2.1 v.2.2.2.2.1 v.2.2.2.2.2) (L := fun k v => L70_0 k v.1 v.2.1 v.2.2.1 v.2.2.2.1 v.2.2.2.2.1 v.2.2.2.2.2) (fun _ => rfl) (fun _ _ => rfl) (v := (v0, v1, v2, v3, v4, v5)) (d := (default, default, default, default, default, default)) hs h hl
  · simp at h
def lq70x0 (n : Nat) : Lq := fun live σ => if live = [0, 1, 12, 13] then lq70_0 n σ else none
def r70_0 (px0 : Bool) (x0 : List Row) (px1 : Bool) (x1 : List Row) : Bool := bif (↑(List.length x0) : Int) != (↑(List.length x1) : Int) then false else bif !boolAt x0 (Int.toNat (w70_0_5 (70 : Nat) px0 x0 px1 x1 (↑(List.length x0) : Int) (0 : Int))) (0 : Nat) == boolAt x1 (Int.toNat (w70_0_5 (70 : Nat) px0 x0 px1 x1 (↑(List.length x0) : Int) (0 : Int))) (0 : Nat) && !!decide (w70_0_5 (70 : Nat) px0 x0 px1 x1 (↑(List.length x0) : Int) (0 : Int) < (↑(List.length x0) : Int)) then false else true
def g70_0 (px0 : Bool) (x0 : List Row) (px1 : Bool) (x1 : List Row) : Bool := bif (↑(List.length x0) : Int) != (↑(List.length x1) : Int) then false else !(!boolAt x0 (Int.toNat (w70_0_5 (70 : Nat) px0 x0 px1 x1 (↑(List.length x0) : Int) (0 : Int))) (0 : Nat) == boolAt x1 (Int.toNat (w70_0_5 (70 : Nat) px0 x0 px1 x1 (↑(List.length x0) : Int) (0 : Int))) (0 : Nat) && decide (w70_0_5 (70 : Nat) px0 x0 px1 x1 (↑(List.length x0) : Int) (0 : Int) < (↑(List.length x0) : Int)))
theorem c70_0 (px0 : Bool) (x0 : List Row) (px1 : Bool) (x1 : List Row) : r70_0 px0 x0 px1 x1 = g70_0 px0 x0 px1 x1 := by simp only [r70_0, g70_0, Bool.cond_self, bif_tf, bif_ft, Bool.not_not, List.drop_zero, List.take_length]
theorem k70 (px0 : Bool) (x0 : List Row) (px1 : Bool) (x1 : List Row) (h : (Option.isSome (L70_0 (70 : Nat) px0 x0 px1 x1 (↑(List.length x0) : Int) (0 : Int)) || (↑(List.length x0) : Int) != (↑(List.length x1) : Int)) = true) : ((Option.isSome (L70_0 (70 : Nat) px0 x0 px1 x1 (↑(List.length x0) : Int) (0 : Int)) && true || (↑(List.length x0) : Int) != (↑(List.length x1) : Int)) && true) = true := by
  have h0 := h
  simp only [h0, Bool.and_true, Bool.true_and, Bool.or_true, Bool.true_or, Bool.or_false, Bool.false_or, Bool.and_self, Bool.cond_self, Bool.not_true, Bool.not_false, Bool.false_and, Bool.and_false, u64_dec, Nat.zero_add, Nat.le_refl, decide_true, eq_self, List.drop_zero, List.take_length, Bool.not_not, bif_tf, bif_ft]
theorem d70 (px0 : Bool) (x0 : List Row) (px1 : Bool) (x1 : List Row) : fnL Q69 [(18, [.bool]), (19, [.bool]), (22, [.bool]), (23, [.bool])] [] (lq70x0 70) 70 F70 [.one (.imm px0 1 x0), .one (.imm px1 1 x1)] [] = some ((SV.one (T.lit (Value.bool (r70_0 px0 x0 px1 x1))), []), (Option.isSome (L70_0 (70 : Nat) px0 x0 px1 x1 (↑(List.length x0) : Int) (0 : Int)) && true || (↑(List.length x0) : Int) != (↑(List.length x1) : Int)) && true) := by kernel_rfl
theorem e70 (px0 : Bool) (x0 : List Row) (px1 : Bool) (x1 : List Row) : fnL Q69 [(18, [.bool]), (19, [.bool]), (22, [.bool]), (23, [.bool])] [] (lq70x0 70) 70 F70 [.one (.imm px0 1 x0), .one (.imm px1 1 x1)] [] = some ((SV.one (T.lit (Value.bool (g70_0 px0 x0 px1 x1))), []), (Option.isSome (L70_0 (70 : Nat) px0 x0 px1 x1 (↑(List.length x0) : Int) (0 : Int)) && true || (↑(List.length x0) : Int) != (↑(List.length x1) : Int)) && true) := by rw [d70, c70_0]
def q70 : List SV → List Blk → Option ((SV × List Blk) × Bool)
  | [.one (.imm px0 1 x0), .one (.imm px1 1 x1)], [] => some ((SV.one (T.lit (Value.bool (g70_0 px0 x0 px1 x1))), []), Option.isSome (L70_0 (70 : Nat) px0 x0 px1 x1 (↑(List.length x0) : Int) (0 : Int)) || (↑(List.length x0) : Int) != (↑(List.length x1) : Int))
  | _, _ => none
theorem t70 (args : List SV) (hp : List Blk) (r : SV × List Blk) (h : q70 args hp = some (r, true)) : R 70 args hp = some r := by
  unfold q70 at h
  split at h
  · rename_i px0 x0 px1 x1; exact R_fn at70 70 (fnL_run Q69_ok (by simp only [F70, F70b0, Loops, true_and, and_true]; first | trivial | (repeat' apply And.intro) <;> first | trivial  | exact fun σ σr o h hl => lt70_0 _ σ σr o h hl) (okTrans (e70 px0 x0 px1 x1) (k70 px0 x0 px1 x1) h))
  · simp at h
noncomputable def Q70 : Qt := qcons 70 q70 Q69
theorem Q70_ok : QOk R Q70 := qcons_ok t70 Q69_ok
/-! laws.FnCompared -/
def r8_0 (x0 : List Row) : Bool := bif decide ((↑(List.length x0) : Int) > (1048576 : Int)) then true else bif bif !g68_0 (g67_0 x0) (g67_1 x0) (g67_2 x0) == g69_0 (g67_0 x0) (g67_1 x0) (g67_2 x0) then true else !g70_0 false (List.take (List.length (g68_1 (g67_0 x0) (g67_1 x0) (g67_2 x0))) (List.drop (0 : Nat) (g68_1 (g67_0 x0) (g67_1 x0) (g67_2 x0)))) false (List.take (List.length (g69_1 (g67_0 x0) (g67_1 x0) (g67_2 x0))) (List.drop (0 : Nat) (g69_1 (g67_0 x0) (g67_1 x0) (g67_2 x0)))) then false else bif !g68_0 (g67_0 x0) (g67_1 x0) (g67_2 x0) then (↑(List.length (g68_1 (g67_0 x0) (g67_1 x0) (g67_2 x0))) : Int) == (0 : Int) else bif bif bif bif bif bif bif bif bif bif g151_0 (g67_0 x0) (g67_1 x0) then g151_0 (g67_0 x0) (g67_2 x0) else false then (↑(List.length (g68_1 (g67_0 x0) (g67_1 x0) (g67_2 x0))) : Int) == (16 : Int) else false then boolAt (g68_1 (g67_0 x0) (g67_1 x0) (g67_2 x0)) (0 : Nat) (0 : Nat) else false then boolAt (g68_1 (g67_0 x0) (g67_1 x0) (g67_2 x0)) (2 : Nat) (0 : Nat) == decide (g67_1 x0 > g67_2 x0) else false then boolAt (g68_1 (g67_0 x0) (g67_1 x0) (g67_2 x0)) (4 : Nat) (0 : Nat) == decide (g67_1 x0 ≥ g67_2 x0) else false then boolAt (g68_1 (g67_0 x0) (g67_1 x0) (g67_2 x0)) (6 : Nat) (0 : Nat) == (g67_1 x0 != g67_2 x0) else false then boolAt (g68_1 (g67_0 x0) (g67_1 x0) (g67_2 x0)) (12 : Nat) (0 : Nat) == decide (g33_0 (g67_0 x0) (g67_1 x0) ≥ g33_0 (g67_0 x0) (g67_2 x0)) else false then boolAt (g68_1 (g67_0 x0) (g67_1 x0) (g67_2 x0)) (14 : Nat) (0 : Nat) == decide (g33_0 (g67_0 x0) (g67_1 x0) > g33_0 (g67_0 x0) (g67_2 x0)) else false then boolAt (g68_1 (g67_0 x0) (g67_1 x0) (g67_2 x0)) (13 : Nat) (0 : Nat) == decide (g33_0 (g67_0 x0) (g67_1 x0) < g33_0 (g67_0 x0) (g67_2 x0)) else false then boolAt (g68_1 (g67_0 x0) (g67_1 x0) (g67_2 x0)) (15 : Nat) (0 : Nat) == decide (g33_0 (g67_0 x0) (g67_1 x0) ≤ g33_0 (g67_0 x0) (g67_2 x0)) else false
def g8_0 (x0 : List Row) : Bool := bif decide ((↑(List.length x0) : Int) > (1048576 : Int)) then true else bif bif !g68_0 (g67_0 x0) (g67_1 x0) (g67_2 x0) == g69_0 (g67_0 x0) (g67_1 x0) (g67_2 x0) then true else !g70_0 false (g68_1 (g67_0 x0) (g67_1 x0) (g67_2 x0)) false (g69_1 (g67_0 x0) (g67_1 x0) (g67_2 x0)) then false else bif !g68_0 (g67_0 x0) (g67_1 x0) (g67_2 x0) then (↑(List.length (g68_1 (g67_0 x0) (g67_1 x0) (g67_2 x0))) : Int) == (0 : Int) else bif bif bif bif bif bif bif bif bif bif g151_0 (g67_0 x0) (g67_1 x0) then g151_0 (g67_0 x0) (g67_2 x0) else false then (↑(List.length (g68_1 (g67_0 x0) (g67_1 x0) (g67_2 x0))) : Int) == (16 : Int) else false then boolAt (g68_1 (g67_0 x0) (g67_1 x0) (g67_2 x0)) (0 : Nat) (0 : Nat) else false then boolAt (g68_1 (g67_0 x0) (g67_1 x0) (g67_2 x0)) (2 : Nat) (0 : Nat) == decide (g67_1 x0 > g67_2 x0) else false then boolAt (g68_1 (g67_0 x0) (g67_1 x0) (g67_2 x0)) (4 : Nat) (0 : Nat) == decide (g67_1 x0 ≥ g67_2 x0) else false then boolAt (g68_1 (g67_0 x0) (g67_1 x0) (g67_2 x0)) (6 : Nat) (0 : Nat) == (g67_1 x0 != g67_2 x0) else false then boolAt (g68_1 (g67_0 x0) (g67_1 x0) (g67_2 x0)) (12 : Nat) (0 : Nat) == decide (g33_0 (g67_0 x0) (g67_1 x0) ≥ g33_0 (g67_0 x0) (g67_2 x0)) else false then boolAt (g68_1 (g67_0 x0) (g67_1 x0) (g67_2 x0)) (14 : Nat) (0 : Nat) == decide (g33_0 (g67_0 x0) (g67_1 x0) > g33_0 (g67_0 x0) (g67_2 x0)) else false then boolAt (g68_1 (g67_0 x0) (g67_1 x0) (g67_2 x0)) (13 : Nat) (0 : Nat) == decide (g33_0 (g67_0 x0) (g67_1 x0) < g33_0 (g67_0 x0) (g67_2 x0)) else false then boolAt (g68_1 (g67_0 x0) (g67_1 x0) (g67_2 x0)) (15 : Nat) (0 : Nat) == decide (g33_0 (g67_0 x0) (g67_1 x0) ≤ g33_0 (g67_0 x0) (g67_2 x0)) else false
theorem c8_0 (x0 : List Row) : r8_0 x0 = g8_0 x0 := by simp only [r8_0, g8_0, Bool.cond_self, bif_tf, bif_ft, Bool.not_not, List.drop_zero, List.take_length]
theorem k8 (x0 : List Row) (h : (bytesOk x0 && ((decide ((0 : Int) ≤ IntKind.wrap IntKind.i64 ((8 : Int) * g67_0 x0)) || bif !g151_0 (g67_0 x0) (g67_1 x0) then true else !g151_0 (g67_0 x0) (g67_2 x0)) && ((Option.isSome (L70_0 (70 : Nat) false (g68_1 (g67_0 x0) (g67_1 x0) (g67_2 x0)) false (g69_1 (g67_0 x0) (g67_1 x0) (g67_2 x0)) (↑(List.length (g68_1 (g67_0 x0) (g67_1 x0) (g67_2 x0))) : Int) (0 : Int)) || (↑(List.length (g68_1 (g67_0 x0) (g67_1 x0) (g67_2 x0))) : Int) != (↑(List.length (g69_1 (g67_0 x0) (g67_1 x0) (g67_2 x0))) : Int) || !g68_0 (g67_0 x0) (g67_1 x0) (g67_2 x0) == g69_0 (g67_0 x0) (g67_1 x0) (g67_2 x0)) && ((decide ((0 : Int) < (↑(List.length (g68_1 (g67_0 x0) (g67_1 x0) (g67_2 x0))) : Int)) && hasRow [Kd.bool] (g68_1 (g67_0 x0) (g67_1 x0) (g67_2 x0)) (0 : Nat) (0 : Nat) || !bif bif g151_0 (g67_0 x0) (g67_1 x0) then g151_0 (g67_0 x0) (g67_2 x0) else false then (↑(List.length (g68_1 (g67_0 x0) (g67_1 x0) (g67_2 x0))) : Int) == (16 : Int) else false) && ((decide ((2 : Int) < (↑(List.length (g68_1 (g67_0 x0) (g67_1 x0) (g67_2 x0))) : Int)) && hasRow [Kd.bool] (g68_1 (g67_0 x0) (g67_1 x0) (g67_2 x0)) (2 : Nat) (0 : Nat) || !bif bif bif g151_0 (g67_0 x0) (g67_1 x0) then g151_0 (g67_0 x0) (g67_2 x0) else false then (↑(List.length (g68_1 (g67_0 x0) (g67_1 x0) (g67_2 x0))) : Int) == (16 : Int) else false then boolAt (g68_1 (g67_0 x0) (g67_1 x0) (g67_2 x0)) (0 : Nat) (0 : Nat) else false) && ((decide ((4 : Int) < (↑(List.length (g68_1 (g67_0 x0) (g67_1 x0) (g67_2 x0))) : Int)) && hasRow [Kd.bool] (g68_1 (g67_0 x0) (g67_1 x0) (g67_2 x0)) (4 : Nat) (0 : Nat) || !bif bif bif bif g151_0 (g67_0 x0) (g67_1 x0) then g151_0 (g67_0 x0) (g67_2 x0) else false then (↑(List.length (g68_1 (g67_0 x0) (g67_1 x0) (g67_2 x0))) : Int) == (16 : Int) else false then boolAt (g68_1 (g67_0 x0) (g67_1 x0) (g67_2 x0)) (0 : Nat) (0 : Nat) else false then boolAt (g68_1 (g67_0 x0) (g67_1 x0) (g67_2 x0)) (2 : Nat) (0 : Nat) == decide (g67_1 x0 > g67_2 x0) else false) && ((decide ((6 : Int) < (↑(List.length (g68_1 (g67_0 x0) (g67_1 x0) (g67_2 x0))) : Int)) && hasRow [Kd.bool] (g68_1 (g67_0 x0) (g67_1 x0) (g67_2 x0)) (6 : Nat) (0 : Nat) || !bif bif bif bif bif g151_0 (g67_0 x0) (g67_1 x0) then g151_0 (g67_0 x0) (g67_2 x0) else false then (↑(List.length (g68_1 (g67_0 x0) (g67_1 x0) (g67_2 x0))) : Int) == (16 : Int) else false then boolAt (g68_1 (g67_0 x0) (g67_1 x0) (g67_2 x0)) (0 : Nat) (0 : Nat) else false then boolAt (g68_1 (g67_0 x0) (g67_1 x0) (g67_2 x0)) (2 : Nat) (0 : Nat) == decide (g67_1 x0 > g67_2 x0) else false then boolAt (g68_1 (g67_0 x0) (g67_1 x0) (g67_2 x0)) (4 : Nat) (0 : Nat) == decide (g67_1 x0 ≥ g67_2 x0) else false) && ((decide ((12 : Int) < (↑(List.length (g68_1 (g67_0 x0) (g67_1 x0) (g67_2 x0))) : Int)) && hasRow [Kd.bool] (g68_1 (g67_0 x0) (g67_1 x0) (g67_2 x0)) (12 : Nat) (0 : Nat) || !bif bif bif bif bif bif g151_0 (g67_0 x0) (g67_1 x0) then g151_0 (g67_0 x0) (g67_2 x0) else false then (↑(List.length (g68_1 (g67_0 x0) (g67_1 x0) (g67_2 x0))) : Int) == (16 : Int) else false then boolAt (g68_1 (g67_0 x0) (g67_1 x0) (g67_2 x0)) (0 : Nat) (0 : Nat) else false then boolAt (g68_1 (g67_0 x0) (g67_1 x0) (g67_2 x0)) (2 : Nat) (0 : Nat) == decide (g67_1 x0 > g67_2 x0) else false then boolAt (g68_1 (g67_0 x0) (g67_1 x0) (g67_2 x0)) (4 : Nat) (0 : Nat) == decide (g67_1 x0 ≥ g67_2 x0) else false then boolAt (g68_1 (g67_0 x0) (g67_1 x0) (g67_2 x0)) (6 : Nat) (0 : Nat) == (g67_1 x0 != g67_2 x0) else false) && ((decide ((14 : Int) < (↑(List.length (g68_1 (g67_0 x0) (g67_1 x0) (g67_2 x0))) : Int)) && hasRow [Kd.bool] (g68_1 (g67_0 x0) (g67_1 x0) (g67_2 x0)) (14 : Nat) (0 : Nat) || !bif bif bif bif bif bif bif g151_0 (g67_0 x0) (g67_1 x0) then g151_0 (g67_0 x0) (g67_2 x0) else false then (↑(List.length (g68_1 (g67_0 x0) (g67_1 x0) (g67_2 x0))) : Int) == (16 : Int) else false then boolAt (g68_1 (g67_0 x0) (g67_1 x0) (g67_2 x0)) (0 : Nat) (0 : Nat) else false then boolAt (g68_1 (g67_0 x0) (g67_1 x0) (g67_2 x0)) (2 : Nat) (0 : Nat) == decide (g67_1 x0 > g67_2 x0) else false then boolAt (g68_1 (g67_0 x0) (g67_1 x0) (g67_2 x0)) (4 : Nat) (0 : Nat) == decide (g67_1 x0 ≥ g67_2 x0) else false then boolAt (g68_1 (g67_0 x0) (g67_1 x0) (g67_2 x0)) (6 : Nat) (0 : Nat) == (g67_1 x0 != g67_2 x0) else false then boolAt (g68_1 (g67_0 x0) (g67_1 x0) (g67_2 x0)) (12 : Nat) (0 : Nat) == decide (g33_0 (g67_0 x0) (g67_1 x0) ≥ g33_0 (g67_0 x0) (g67_2 x0)) else false) && ((decide ((13 : Int) < (↑(List.length (g68_1 (g67_0 x0) (g67_1 x0) (g67_2 x0))) : Int)) && hasRow [Kd.bool] (g68_1 (g67_0 x0) (g67_1 x0) (g67_2 x0)) (13 : Nat) (0 : Nat) || !bif bif bif bif bif bif bif bif g151_0 (g67_0 x0) (g67_1 x0) then g151_0 (g67_0 x0) (g67_2 x0) else false then (↑(List.length (g68_1 (g67_0 x0) (g67_1 x0) (g67_2 x0))) : Int) == (16 : Int) else false then boolAt (g68_1 (g67_0 x0) (g67_1 x0) (g67_2 x0)) (0 : Nat) (0 : Nat) else false then boolAt (g68_1 (g67_0 x0) (g67_1 x0) (g67_2 x0)) (2 : Nat) (0 : Nat) == decide (g67_1 x0 > g67_2 x0) else false then boolAt (g68_1 (g67_0 x0) (g67_1 x0) (g67_2 x0)) (4 : Nat) (0 : Nat) == decide (g67_1 x0 ≥ g67_2 x0) else false then boolAt (g68_1 (g67_0 x0) (g67_1 x0) (g67_2 x0)) (6 : Nat) (0 : Nat) == (g67_1 x0 != g67_2 x0) else false then boolAt (g68_1 (g67_0 x0) (g67_1 x0) (g67_2 x0)) (12 : Nat) (0 : Nat) == decide (g33_0 (g67_0 x0) (g67_1 x0) ≥ g33_0 (g67_0 x0) (g67_2 x0)) else false then boolAt (g68_1 (g67_0 x0) (g67_1 x0) (g67_2 x0)) (14 : Nat) (0 : Nat) == decide (g33_0 (g67_0 x0) (g67_1 x0) > g33_0 (g67_0 x0) (g67_2 x0)) else false) && (decide ((15 : Int) < (↑(List.length (g68_1 (g67_0 x0) (g67_1 x0) (g67_2 x0))) : Int)) && hasRow [Kd.bool] (g68_1 (g67_0 x0) (g67_1 x0) (g67_2 x0)) (15 : Nat) (0 : Nat) || !bif bif bif bif bif bif bif bif bif g151_0 (g67_0 x0) (g67_1 x0) then g151_0 (g67_0 x0) (g67_2 x0) else false then (↑(List.length (g68_1 (g67_0 x0) (g67_1 x0) (g67_2 x0))) : Int) == (16 : Int) else false then boolAt (g68_1 (g67_0 x0) (g67_1 x0) (g67_2 x0)) (0 : Nat) (0 : Nat) else false then boolAt (g68_1 (g67_0 x0) (g67_1 x0) (g67_2 x0)) (2 : Nat) (0 : Nat) == decide (g67_1 x0 > g67_2 x0) else false then boolAt (g68_1 (g67_0 x0) (g67_1 x0) (g67_2 x0)) (4 : Nat) (0 : Nat) == decide (g67_1 x0 ≥ g67_2 x0) else false then boolAt (g68_1 (g67_0 x0) (g67_1 x0) (g67_2 x0)) (6 : Nat) (0 : Nat) == (g67_1 x0 != g67_2 x0) else false then boolAt (g68_1 (g67_0 x0) (g67_1 x0) (g67_2 x0)) (12 : Nat) (0 : Nat) == decide (g33_0 (g67_0 x0) (g67_1 x0) ≥ g33_0 (g67_0 x0) (g67_2 x0)) else false then boolAt (g68_1 (g67_0 x0) (g67_1 x0) (g67_2 x0)) (14 : Nat) (0 : Nat) == decide (g33_0 (g67_0 x0) (g67_1 x0) > g33_0 (g67_0 x0) (g67_2 x0)) else false then boolAt (g68_1 (g67_0 x0) (g67_1 x0) (g67_2 x0)) (13 : Nat) (0 : Nat) == decide (g33_0 (g67_0 x0) (g67_1 x0) < g33_0 (g67_0 x0) (g67_2 x0)) else false))))))) || !g68_0 (g67_0 x0) (g67_1 x0) (g67_2 x0) || bif !g68_0 (g67_0 x0) (g67_1 x0) (g67_2 x0) == g69_0 (g67_0 x0) (g67_1 x0) (g67_2 x0) then true else !g70_0 false (g68_1 (g67_0 x0) (g67_1 x0) (g67_2 x0)) false (g69_1 (g67_0 x0) (g67_1 x0) (g67_2 x0)))) || decide ((↑(List.length x0) : Int) > (1048576 : Int)))) = true) : ((bytesOk x0 && true && ((decide ((0 : Int) ≤ IntKind.wrap IntKind.i64 ((8 : Int) * g67_0 x0)) || bif !g151_0 (g67_0 x0) (g67_1 x0) then true else !g151_0 (g67_0 x0) (g67_2 x0)) && true && ((decide ((0 : Nat) + List.length (g68_1 (g67_0 x0) (g67_1 x0) (g67_2 x0)) ≤ List.length (g68_1 (g67_0 x0) (g67_1 x0) (g67_2 x0))) && (decide ((0 : Nat) + List.length (g69_1 (g67_0 x0) (g67_1 x0) (g67_2 x0)) ≤ List.length (g69_1 (g67_0 x0) (g67_1 x0) (g67_2 x0))) && true) && (Option.isSome (L70_0 (70 : Nat) false (List.take (List.length (g68_1 (g67_0 x0) (g67_1 x0) (g67_2 x0))) (List.drop (0 : Nat) (g68_1 (g67_0 x0) (g67_1 x0) (g67_2 x0)))) false (List.take (List.length (g69_1 (g67_0 x0) (g67_1 x0) (g67_2 x0))) (List.drop (0 : Nat) (g69_1 (g67_0 x0) (g67_1 x0) (g67_2 x0)))) (↑(List.length (List.take (List.length (g68_1 (g67_0 x0) (g67_1 x0) (g67_2 x0))) (List.drop (0 : Nat) (g68_1 (g67_0 x0) (g67_1 x0) (g67_2 x0))))) : Int) (0 : Int)) || (↑(List.length (List.take (List.length (g68_1 (g67_0 x0) (g67_1 x0) (g67_2 x0))) (List.drop (0 : Nat) (g68_1 (g67_0 x0) (g67_1 x0) (g67_2 x0))))) : Int) != (↑(List.length (List.take (List.length (g69_1 (g67_0 x0) (g67_1 x0) (g67_2 x0))) (List.drop (0 : Nat) (g69_1 (g67_0 x0) (g67_1 x0) (g67_2 x0))))) : Int)) && true || !g68_0 (g67_0 x0) (g67_1 x0) (g67_2 x0) == g69_0 (g67_0 x0) (g67_1 x0) (g67_2 x0)) && true && true && ((decide ((0 : Nat) + List.length (g68_1 (g67_0 x0) (g67_1 x0) (g67_2 x0)) ≤ List.length (g68_1 (g67_0 x0) (g67_1 x0) (g67_2 x0))) && true && true || !!g68_0 (g67_0 x0) (g67_1 x0) (g67_2 x0)) && true && ((decide ((0 : Nat) + List.length (g68_1 (g67_0 x0) (g67_1 x0) (g67_2 x0)) ≤ List.length (g68_1 (g67_0 x0) (g67_1 x0) (g67_2 x0))) && true || !bif g151_0 (g67_0 x0) (g67_1 x0) then g151_0 (g67_0 x0) (g67_2 x0) else false) && ((decide ((0 : Int) < (↑(List.length (g68_1 (g67_0 x0) (g67_1 x0) (g67_2 x0))) : Int)) && (hasRow [Kd.bool] (g68_1 (g67_0 x0) (g67_1 x0) (g67_2 x0)) (0 : Nat) (0 : Nat) && true) || !bif bif g151_0 (g67_0 x0) (g67_1 x0) then g151_0 (g67_0 x0) (g67_2 x0) else false then (↑(List.length (g68_1 (g67_0 x0) (g67_1 x0) (g67_2 x0))) : Int) == (16 : Int) else false) && ((decide ((2 : Int) < (↑(List.length (g68_1 (g67_0 x0) (g67_1 x0) (g67_2 x0))) : Int)) && (hasRow [Kd.bool] (g68_1 (g67_0 x0) (g67_1 x0) (g67_2 x0)) (2 : Nat) (0 : Nat) && true) || !bif bif bif g151_0 (g67_0 x0) (g67_1 x0) then g151_0 (g67_0 x0) (g67_2 x0) else false then (↑(List.length (g68_1 (g67_0 x0) (g67_1 x0) (g67_2 x0))) : Int) == (16 : Int) else false then boolAt (g68_1 (g67_0 x0) (g67_1 x0) (g67_2 x0)) (0 : Nat) (0 : Nat) else false) && ((decide ((4 : Int) < (↑(List.length (g68_1 (g67_0 x0) (g67_1 x0) (g67_2 x0))) : Int)) && (hasRow [Kd.bool] (g68_1 (g67_0 x0) (g67_1 x0) (g67_2 x0)) (4 : Nat) (0 : Nat) && true) || !bif bif bif bif g151_0 (g67_0 x0) (g67_1 x0) then g151_0 (g67_0 x0) (g67_2 x0) else false then (↑(List.length (g68_1 (g67_0 x0) (g67_1 x0) (g67_2 x0))) : Int) == (16 : Int) else false then boolAt (g68_1 (g67_0 x0) (g67_1 x0) (g67_2 x0)) (0 : Nat) (0 : Nat) else false then boolAt (g68_1 (g67_0 x0) (g67_1 x0) (g67_2 x0)) (2 : Nat) (0 : Nat) == decide (g67_1 x0 > g67_2 x0) else false) && ((decide ((6 : Int) < (↑(List.length (g68_1 (g67_0 x0) (g67_1 x0) (g67_2 x0))) : Int)) && (hasRow [Kd.bool] (g68_1 (g67_0 x0) (g67_1 x0) (g67_2 x0)) (6 : Nat) (0 : Nat) && true) || !bif bif bif bif bif g151_0 (g67_0 x0) (g67_1 x0) then g151_0 (g67_0 x0) (g67_2 x0) else false then (↑(List.length (g68_1 (g67_0 x0) (g67_1 x0) (g67_2 x0))) : Int) == (16 : Int) else false then boolAt (g68_1 (g67_0 x0) (g67_1 x0) (g67_2 x0)) (0 : Nat) (0 : Nat) else false then boolAt (g68_1 (g67_0 x0) (g67_1 x0) (g67_2 x0)) (2 : Nat) (0 : Nat) == decide (g67_1 x0 > g67_2 x0) else false then boolAt (g68_1 (g67_0 x0) (g67_1 x0) (g67_2 x0)) (4 : Nat) (0 : Nat) == decide (g67_1 x0 ≥ g67_2 x0) else false) && ((decide ((12 : Int) < (↑(List.length (g68_1 (g67_0 x0) (g67_1 x0) (g67_2 x0))) : Int)) && (hasRow [Kd.bool] (g68_1 (g67_0 x0) (g67_1 x0) (g67_2 x0)) (12 : Nat) (0 : Nat) && true) || !bif bif bif bif bif bif g151_0 (g67_0 x0) (g67_1 x0) then g151_0 (g67_0 x0) (g67_2 x0) else false then (↑(List.length (g68_1 (g67_0 x0) (g67_1 x0) (g67_2 x0))) : Int) == (16 : Int) else false then boolAt (g68_1 (g67_0 x0) (g67_1 x0) (g67_2 x0)) (0 : Nat) (0 : Nat) else false then boolAt (g68_1 (g67_0 x0) (g67_1 x0) (g67_2 x0)) (2 : Nat) (0 : Nat) == decide (g67_1 x0 > g67_2 x0) else false then boolAt (g68_1 (g67_0 x0) (g67_1 x0) (g67_2 x0)) (4 : Nat) (0 : Nat) == decide (g67_1 x0 ≥ g67_2 x0) else false then boolAt (g68_1 (g67_0 x0) (g67_1 x0) (g67_2 x0)) (6 : Nat) (0 : Nat) == (g67_1 x0 != g67_2 x0) else false) && ((decide ((14 : Int) < (↑(List.length (g68_1 (g67_0 x0) (g67_1 x0) (g67_2 x0))) : Int)) && (hasRow [Kd.bool] (g68_1 (g67_0 x0) (g67_1 x0) (g67_2 x0)) (14 : Nat) (0 : Nat) && true) || !bif bif bif bif bif bif bif g151_0 (g67_0 x0) (g67_1 x0) then g151_0 (g67_0 x0) (g67_2 x0) else false then (↑(List.length (g68_1 (g67_0 x0) (g67_1 x0) (g67_2 x0))) : Int) == (16 : Int) else false then boolAt (g68_1 (g67_0 x0) (g67_1 x0) (g67_2 x0)) (0 : Nat) (0 : Nat) else false then boolAt (g68_1 (g67_0 x0) (g67_1 x0) (g67_2 x0)) (2 : Nat) (0 : Nat) == decide (g67_1 x0 > g67_2 x0) else false then boolAt (g68_1 (g67_0 x0) (g67_1 x0) (g67_2 x0)) (4 : Nat) (0 : Nat) == decide (g67_1 x0 ≥ g67_2 x0) else false then boolAt (g68_1 (g67_0 x0) (g67_1 x0) (g67_2 x0)) (6 : Nat) (0 : Nat) == (g67_1 x0 != g67_2 x0) else false then boolAt (g68_1 (g67_0 x0) (g67_1 x0) (g67_2 x0)) (12 : Nat) (0 : Nat) == decide (g33_0 (g67_0 x0) (g67_1 x0) ≥ g33_0 (g67_0 x0) (g67_2 x0)) else false) && ((decide ((13 : Int) < (↑(List.length (g68_1 (g67_0 x0) (g67_1 x0) (g67_2 x0))) : Int)) && (hasRow [Kd.bool] (g68_1 (g67_0 x0) (g67_1 x0) (g67_2 x0)) (13 : Nat) (0 : Nat) && true) || !bif bif bif bif bif bif bif bif g151_0 (g67_0 x0) (g67_1 x0) then g151_0 (g67_0 x0) (g67_2 x0) else false then (↑(List.length (g68_1 (g67_0 x0) (g67_1 x0) (g67_2 x0))) : Int) == (16 : Int) else false then boolAt (g68_1 (g67_0 x0) (g67_1 x0) (g67_2 x0)) (0 : Nat) (0 : Nat) else false then boolAt (g68_1 (g67_0 x0) (g67_1 x0) (g67_2 x0)) (2 : Nat) (0 : Nat) == decide (g67_1 x0 > g67_2 x0) else false then boolAt (g68_1 (g67_0 x0) (g67_1 x0) (g67_2 x0)) (4 : Nat) (0 : Nat) == decide (g67_1 x0 ≥ g67_2 x0) else false then boolAt (g68_1 (g67_0 x0) (g67_1 x0) (g67_2 x0)) (6 : Nat) (0 : Nat) == (g67_1 x0 != g67_2 x0) else false then boolAt (g68_1 (g67_0 x0) (g67_1 x0) (g67_2 x0)) (12 : Nat) (0 : Nat) == decide (g33_0 (g67_0 x0) (g67_1 x0) ≥ g33_0 (g67_0 x0) (g67_2 x0)) else false then boolAt (g68_1 (g67_0 x0) (g67_1 x0) (g67_2 x0)) (14 : Nat) (0 : Nat) == decide (g33_0 (g67_0 x0) (g67_1 x0) > g33_0 (g67_0 x0) (g67_2 x0)) else false) && ((decide ((15 : Int) < (↑(List.length (g68_1 (g67_0 x0) (g67_1 x0) (g67_2 x0))) : Int)) && (hasRow [Kd.bool] (g68_1 (g67_0 x0) (g67_1 x0) (g67_2 x0)) (15 : Nat) (0 : Nat) && true) || !bif bif bif bif bif bif bif bif bif g151_0 (g67_0 x0) (g67_1 x0) then g151_0 (g67_0 x0) (g67_2 x0) else false then (↑(List.length (g68_1 (g67_0 x0) (g67_1 x0) (g67_2 x0))) : Int) == (16 : Int) else false then boolAt (g68_1 (g67_0 x0) (g67_1 x0) (g67_2 x0)) (0 : Nat) (0 : Nat) else false then boolAt (g68_1 (g67_0 x0) (g67_1 x0) (g67_2 x0)) (2 : Nat) (0 : Nat) == decide (g67_1 x0 > g67_2 x0) else false then boolAt (g68_1 (g67_0 x0) (g67_1 x0) (g67_2 x0)) (4 : Nat) (0 : Nat) == decide (g67_1 x0 ≥ g67_2 x0) else false then boolAt (g68_1 (g67_0 x0) (g67_1 x0) (g67_2 x0)) (6 : Nat) (0 : Nat) == (g67_1 x0 != g67_2 x0) else false then boolAt (g68_1 (g67_0 x0) (g67_1 x0) (g67_2 x0)) (12 : Nat) (0 : Nat) == decide (g33_0 (g67_0 x0) (g67_1 x0) ≥ g33_0 (g67_0 x0) (g67_2 x0)) else false then boolAt (g68_1 (g67_0 x0) (g67_1 x0) (g67_2 x0)) (14 : Nat) (0 : Nat) == decide (g33_0 (g67_0 x0) (g67_1 x0) > g33_0 (g67_0 x0) (g67_2 x0)) else false then boolAt (g68_1 (g67_0 x0) (g67_1 x0) (g67_2 x0)) (13 : Nat) (0 : Nat) == decide (g33_0 (g67_0 x0) (g67_1 x0) < g33_0 (g67_0 x0) (g67_2 x0)) else false) && true)))))))) && true || !g68_0 (g67_0 x0) (g67_1 x0) (g67_2 x0)) || bif !g68_0 (g67_0 x0) (g67_1 x0) (g67_2 x0) == g69_0 (g67_0 x0) (g67_1 x0) (g67_2 x0) then true else !g70_0 false (List.take (List.length (g68_1 (g67_0 x0) (g67_1 x0) (g67_2 x0))) (List.drop (0 : Nat) (g68_1 (g67_0 x0) (g67_1 x0) (g67_2 x0)))) false (List.take (List.length (g69_1 (g67_0 x0) (g67_1 x0) (g67_2 x0))) (List.drop (0 : Nat) (g69_1 (g67_0 x0) (g67_1 x0) (g67_2 x0))))))) || decide ((↑(List.length x0) : Int) > (1048576 : Int))) && true) = true := by
  obtain ⟨h0, h⟩ := Bool.and_eq_true_iff.1 h
  have h1 := h
  simp only [h0, h1, Bool.and_true, Bool.true_and, Bool.or_true, Bool.true_or, Bool.or_false, Bool.false_or, Bool.and_self, Bool.cond_self, Bool.not_true, Bool.not_false, Bool.false_and, Bool.and_false, u64_dec, Nat.zero_add, Nat.le_refl, decide_true, eq_self, List.drop_zero, List.take_length, Bool.not_not, bif_tf, bif_ft]
theorem d8 (x0 : List Row) : fnT Q70 [(74, [.bool]), (75, [.bool]), (79, [.bool]), (80, [.bool]), (88, [.bool]), (89, [.bool]), (97, [.bool]), (98, [.bool]), (106, [.bool]), (107, [.bool]), (115, [.bool]), (116, [.bool]), (124, [.bool]), (125, [.bool]), (133, [.bool]), (134, [.bool])] [] 0 F8 [.one (.imm true 1 x0)] [] = some ((SV.one (T.lit (Value.bool (r8_0 x0))), []), (bytesOk x0 && true && ((decide ((0 : Int) ≤ IntKind.wrap IntKind.i64 ((8 : Int) * g67_0 x0)) || bif !g151_0 (g67_0 x0) (g67_1 x0) then true else !g151_0 (g67_0 x0) (g67_2 x0)) && true && ((decide ((0 : Nat) + List.length (g68_1 (g67_0 x0) (g67_1 x0) (g67_2 x0)) ≤ List.length (g68_1 (g67_0 x0) (g67_1 x0) (g67_2 x0))) && (decide ((0 : Nat) + List.length (g69_1 (g67_0 x0) (g67_1 x0) (g67_2 x0)) ≤ List.length (g69_1 (g67_0 x0) (g67_1 x0) (g67_2 x0))) && true) && (Option.isSome (L70_0 (70 : Nat) false (List.take (List.length (g68_1 (g67_0 x0) (g67_1 x0) (g67_2 x0))) (List.drop (0 : Nat) (g68_1 (g67_0 x0) (g67_1 x0) (g67_2 x0)))) false (List.take (List.length (g69_1 (g67_0 x0) (g67_1 x0) (g67_2 x0))) (List.drop (0 : Nat) (g69_1 (g67_0 x0) (g67_1 x0) (g67_2 x0)))) (↑(List.length (List.take (List.length (g68_1 (g67_0 x0) (g67_1 x0) (g67_2 x0))) (List.drop (0 : Nat) (g68_1 (g67_0 x0) (g67_1 x0) (g67_2 x0))))) : Int) (0 : Int)) || (↑(List.length (List.take (List.length (g68_1 (g67_0 x0) (g67_1 x0) (g67_2 x0))) (List.drop (0 : Nat) (g68_1 (g67_0 x0) (g67_1 x0) (g67_2 x0))))) : Int) != (↑(List.length (List.take (List.length (g69_1 (g67_0 x0) (g67_1 x0) (g67_2 x0))) (List.drop (0 : Nat) (g69_1 (g67_0 x0) (g67_1 x0) (g67_2 x0))))) : Int)) && true || !g68_0 (g67_0 x0) (g67_1 x0) (g67_2 x0) == g69_0 (g67_0 x0) (g67_1 x0) (g67_2 x0)) && true && true && ((decide ((0 : Nat) + List.length (g68_1 (g67_0 x0) (g67_1 x0) (g67_2 x0)) ≤ List.length (g68_1 (g67_0 x0) (g67_1 x0) (g67_2 x0))) && true && true || !!g68_0 (g67_0 x0) (g67_1 x0) (g67_2 x0)) && true && ((decide ((0 : Nat) + List.length (g68_1 (g67_0 x0) (g67_1 x0) (g67_2 x0)) ≤ List.length (g68_1 (g67_0 x0) (g67_1 x0) (g67_2 x0))) && true || !bif g151_0 (g67_0 x0) (g67_1 x0) then g151_0 (g67_0 x0) (g67_2 x0) else false) && ((decide ((0 : Int) < (↑(List.length (g68_1 (g67_0 x0) (g67_1 x0) (g67_2 x0))) : Int)) && (hasRow [Kd.bool] (g68_1 (g67_0 x0) (g67_1 x0) (g67_2 x0)) (0 : Nat) (0 : Nat) && true) || !bif bif g151_0 (g67_0 x0) (g67_1 x0) then g151_0 (g67_0 x0) (g67_2 x0) else false then (↑(List.length (g68_1 (g67_0 x0) (g67_1 x0) (g67_2 x0))) : Int) == (16 : Int) else false) && ((decide ((2 : Int) < (↑(List.length (g68_1 (g67_0 x0) (g67_1 x0) (g67_2 x0))) : Int)) && (hasRow [Kd.bool] (g68_1 (g67_0 x0) (g67_1 x0) (g67_2 x0)) (2 : Nat) (0 : Nat) && true) || !bif bif bif g151_0 (g67_0 x0) (g67_1 x0) then g151_0 (g67_0 x0) (g67_2 x0) else false then (↑(List.length (g68_1 (g67_0 x0) (g67_1 x0) (g67_2 x0))) : Int) == (16 : Int) else false then boolAt (g68_1 (g67_0 x0) (g67_1 x0) (g67_2 x0)) (0 : Nat) (0 : Nat) else false) && ((decide ((4 : Int) < (↑(List.length (g68_1 (g67_0 x0) (g67_1 x0) (g67_2 x0))) : Int)) && (hasRow [Kd.bool] (g68_1 (g67_0 x0) (g67_1 x0) (g67_2 x0)) (4 : Nat) (0 : Nat) && true) || !bif bif bif bif g151_0 (g67_0 x0) (g67_1 x0) then g151_0 (g67_0 x0) (g67_2 x0) else false then (↑(List.length (g68_1 (g67_0 x0) (g67_1 x0) (g67_2 x0))) : Int) == (16 : Int) else false then boolAt (g68_1 (g67_0 x0) (g67_1 x0) (g67_2 x0)) (0 : Nat) (0 : Nat) else false then boolAt (g68_1 (g67_0 x0) (g67_1 x0) (g67_2 x0)) (2 : Nat) (0 : Nat) == decide (g67_1 x0 > g67_2 x0) else false) && ((decide ((6 : Int) < (↑(List.length (g68_1 (g67_0 x0) (g67_1 x0) (g67_2 x0))) : Int)) && (hasRow [Kd.bool] (g68_1 (g67_0 x0) (g67_1 x0) (g67_2 x0)) (6 : Nat) (0 : Nat) && true) || !bif bif bif bif bif g151_0 (g67_0 x0) (g67_1 x0) then g151_0 (g67_0 x0) (g67_2 x0) else false then (↑(List.length (g68_1 (g67_0 x0) (g67_1 x0) (g67_2 x0))) : Int) == (16 : Int) else false then boolAt (g68_1 (g67_0 x0) (g67_1 x0) (g67_2 x0)) (0 : Nat) (0 : Nat) else false then boolAt (g68_1 (g67_0 x0) (g67_1 x0) (g67_2 x0)) (2 : Nat) (0 : Nat) == decide (g67_1 x0 > g67_2 x0) else false then boolAt (g68_1 (g67_0 x0) (g67_1 x0) (g67_2 x0)) (4 : Nat) (0 : Nat) == decide (g67_1 x0 ≥ g67_2 x0) else false) && ((decide ((12 : Int) < (↑(List.length (g68_1 (g67_0 x0) (g67_1 x0) (g67_2 x0))) : Int)) && (hasRow [Kd.bool] (g68_1 (g67_0 x0) (g67_1 x0) (g67_2 x0)) (12 : Nat) (0 : Nat) && true) || !bif bif bif bif bif bif g151_0 (g67_0 x0) (g67_1 x0) then g151_0 (g67_0 x0) (g67_2 x0) else false then (↑(List.length (g68_1 (g67_0 x0) (g67_1 x0) (g67_2 x0))) : Int) == (16 : Int) else false then boolAt (g68_1 (g67_0 x0) (g67_1 x0) (g67_2 x0)) (0 : Nat) (0 : Nat) else false then boolAt (g68_1 (g67_0 x0) (g67_1 x0) (g67_2 x0)) (2 : Nat) (0 : Nat) == decide (g67_1 x0 > g67_2 x0) else false then boolAt (g68_1 (g67_0 x0) (g67_1 x0) (g67_2 x0)) (4 : Nat) (0 : Nat) == decide (g67_1 x0 ≥ g67_2 x0) else false then boolAt (g68_1 (g67_0 x0) (g67_1 x0) (g67_2 x0)) (6 : Nat) (0 : Nat) == (g67_1 x0 != g67_2 x0) else false) && ((decide ((14 : Int) < (↑(List.length (g68_1 (g67_0 x0) (g67_1 x0) (g67_2 x0))) : Int)) && (hasRow [Kd.bool] (g68_1 (g67_0 x0) (g67_1 x0) (g67_2 x0)) (14 : Nat) (0 : Nat) && true) || !bif bif bif bif bif bif bif g151_0 (g67_0 x0) (g67_1 x0) then g151_0 (g67_0 x0) (g67_2 x0) else false then (↑(List.length (g68_1 (g67_0 x0) (g67_1 x0) (g67_2 x0))) : Int) == (16 : Int) else false then boolAt (g68_1 (g67_0 x0) (g67_1 x0) (g67_2 x0)) (0 : Nat) (0 : Nat) else false then boolAt (g68_1 (g67_0 x0) (g67_1 x0) (g67_2 x0)) (2 : Nat) (0 : Nat) == decide (g67_1 x0 > g67_2 x0) else false then boolAt (g68_1 (g67_0 x0) (g67_1 x0) (g67_2 x0)) (4 : Nat) (0 : Nat) == decide (g67_1 x0 ≥ g67_2 x0) else false then boolAt (g68_1 (g67_0 x0) (g67_1 x0) (g67_2 x0)) (6 : Nat) (0 : Nat) == (g67_1 x0 != g67_2 x0) else false then boolAt (g68_1 (g67_0 x0) (g67_1 x0) (g67_2 x0)) (12 : Nat) (0 : Nat) == decide (g33_0 (g67_0 x0) (g67_1 x0) ≥ g33_0 (g67_0 x0) (g67_2 x0)) else false) && ((decide ((13 : Int) < (↑(List.length (g68_1 (g67_0 x0) (g67_1 x0) (g67_2 x0))) : Int)) && (hasRow [Kd.bool] (g68_1 (g67_0 x0) (g67_1 x0) (g67_2 x0)) (13 : Nat) (0 : Nat) && true) || !bif bif bif bif bif bif bif bif g151_0 (g67_0 x0) (g67_1 x0) then g151_0 (g67_0 x0) (g67_2 x0) else false then (↑(List.length (g68_1 (g67_0 x0) (g67_1 x0) (g67_2 x0))) : Int) == (16 : Int) else false then boolAt (g68_1 (g67_0 x0) (g67_1 x0) (g67_2 x0)) (0 : Nat) (0 : Nat) else false then boolAt (g68_1 (g67_0 x0) (g67_1 x0) (g67_2 x0)) (2 : Nat) (0 : Nat) == decide (g67_1 x0 > g67_2 x0) else false then boolAt (g68_1 (g67_0 x0) (g67_1 x0) (g67_2 x0)) (4 : Nat) (0 : Nat) == decide (g67_1 x0 ≥ g67_2 x0) else false then boolAt (g68_1 (g67_0 x0) (g67_1 x0) (g67_2 x0)) (6 : Nat) (0 : Nat) == (g67_1 x0 != g67_2 x0) else false then boolAt (g68_1 (g67_0 x0) (g67_1 x0) (g67_2 x0)) (12 : Nat) (0 : Nat) == decide (g33_0 (g67_0 x0) (g67_1 x0) ≥ g33_0 (g67_0 x0) (g67_2 x0)) else false then boolAt (g68_1 (g67_0 x0) (g67_1 x0) (g67_2 x0)) (14 : Nat) (0 : Nat) == decide (g33_0 (g67_0 x0) (g67_1 x0) > g33_0 (g67_0 x0) (g67_2 x0)) else false) && ((decide ((15 : Int) < (↑(List.length (g68_1 (g67_0 x0) (g67_1 x0) (g67_2 x0))) : Int)) && (hasRow [Kd.bool] (g68_1 (g67_0 x0) (g67_1 x0) (g67_2 x0)) (15 : Nat) (0 : Nat) && true) || !bif bif bif bif bif bif bif bif bif g151_0 (g67_0 x0) (g67_1 x0) then g151_0 (g67_0 x0) (g67_2 x0) else false then (↑(List.length (g68_1 (g67_0 x0) (g67_1 x0) (g67_2 x0))) : Int) == (16 : Int) else false then boolAt (g68_1 (g67_0 x0) (g67_1 x0) (g67_2 x0)) (0 : Nat) (0 : Nat) else false then boolAt (g68_1 (g67_0 x0) (g67_1 x0) (g67_2 x0)) (2 : Nat) (0 : Nat) == decide (g67_1 x0 > g67_2 x0) else false then boolAt (g68_1 (g67_0 x0) (g67_1 x0) (g67_2 x0)) (4 : Nat) (0 : Nat) == decide (g67_1 x0 ≥ g67_2 x0) else false then boolAt (g68_1 (g67_0 x0) (g67_1 x0) (g67_2 x0)) (6 : Nat) (0 : Nat) == (g67_1 x0 != g67_2 x0) else false then boolAt (g68_1 (g67_0 x0) (g67_1 x0) (g67_2 x0)) (12 : Nat) (0 : Nat) == decide (g33_0 (g67_0 x0) (g67_1 x0) ≥ g33_0 (g67_0 x0) (g67_2 x0)) else false then boolAt (g68_1 (g67_0 x0) (g67_1 x0) (g67_2 x0)) (14 : Nat) (0 : Nat) == decide (g33_0 (g67_0 x0) (g67_1 x0) > g33_0 (g67_0 x0) (g67_2 x0)) else false then boolAt (g68_1 (g67_0 x0) (g67_1 x0) (g67_2 x0)) (13 : Nat) (0 : Nat) == decide (g33_0 (g67_0 x0) (g67_1 x0) < g33_0 (g67_0 x0) (g67_2 x0)) else false) && true)))))))) && true || !g68_0 (g67_0 x0) (g67_1 x0) (g67_2 x0)) || bif !g68_0 (g67_0 x0) (g67_1 x0) (g67_2 x0) == g69_0 (g67_0 x0) (g67_1 x0) (g67_2 x0) then true else !g70_0 false (List.take (List.length (g68_1 (g67_0 x0) (g67_1 x0) (g67_2 x0))) (List.drop (0 : Nat) (g68_1 (g67_0 x0) (g67_1 x0) (g67_2 x0)))) false (List.take (List.length (g69_1 (g67_0 x0) (g67_1 x0) (g67_2 x0))) (List.drop (0 : Nat) (g69_1 (g67_0 x0) (g67_1 x0) (g67_2 x0))))))) || decide ((↑(List.length x0) : Int) > (1048576 : Int))) && true) := by kernel_rfl
theorem e8 (x0 : List Row) : fnT Q70 [(74, [.bool]), (75, [.bool]), (79, [.bool]), (80, [.bool]), (88, [.bool]), (89, [.bool]), (97, [.bool]), (98, [.bool]), (106, [.bool]), (107, [.bool]), (115, [.bool]), (116, [.bool]), (124, [.bool]), (125, [.bool]), (133, [.bool]), (134, [.bool])] [] 0 F8 [.one (.imm true 1 x0)] [] = some ((SV.one (T.lit (Value.bool (g8_0 x0))), []), (bytesOk x0 && true && ((decide ((0 : Int) ≤ IntKind.wrap IntKind.i64 ((8 : Int) * g67_0 x0)) || bif !g151_0 (g67_0 x0) (g67_1 x0) then true else !g151_0 (g67_0 x0) (g67_2 x0)) && true && ((decide ((0 : Nat) + List.length (g68_1 (g67_0 x0) (g67_1 x0) (g67_2 x0)) ≤ List.length (g68_1 (g67_0 x0) (g67_1 x0) (g67_2 x0))) && (decide ((0 : Nat) + List.length (g69_1 (g67_0 x0) (g67_1 x0) (g67_2 x0)) ≤ List.length (g69_1 (g67_0 x0) (g67_1 x0) (g67_2 x0))) && true) && (Option.isSome (L70_0 (70 : Nat) false (List.take (List.length (g68_1 (g67_0 x0) (g67_1 x0) (g67_2 x0))) (List.drop (0 : Nat) (g68_1 (g67_0 x0) (g67_1 x0) (g67_2 x0)))) false (List.take (List.length (g69_1 (g67_0 x0) (g67_1 x0) (g67_2 x0))) (List.drop (0 : Nat) (g69_1 (g67_0 x0) (g67_1 x0) (g67_2 x0)))) (↑(List.length (List.take (List.length (g68_1 (g67_0 x0) (g67_1 x0) (g67_2 x0))) (List.drop (0 : Nat) (g68_1 (g67_0 x0) (g67_1 x0) (g67_2 x0))))) : Int) (0 : Int)) || (↑(List.length (List.take (List.length (g68_1 (g67_0 x0) (g67_1 x0) (g67_2 x0))) (List.drop (0 : Nat) (g68_1 (g67_0 x0) (g67_1 x0) (g67_2 x0))))) : Int) != (↑(List.length (List.take (List.length (g69_1 (g67_0 x0) (g67_1 x0) (g67_2 x0))) (List.drop (0 : Nat) (g69_1 (g67_0 x0) (g67_1 x0) (g67_2 x0))))) : Int)) && true || !g68_0 (g67_0 x0) (g67_1 x0) (g67_2 x0) == g69_0 (g67_0 x0) (g67_1 x0) (g67_2 x0)) && true && true && ((decide ((0 : Nat) + List.length (g68_1 (g67_0 x0) (g67_1 x0) (g67_2 x0)) ≤ List.length (g68_1 (g67_0 x0) (g67_1 x0) (g67_2 x0))) && true && true || !!g68_0 (g67_0 x0) (g67_1 x0) (g67_2 x0)) && true && ((decide ((0 : Nat) + List.length (g68_1 (g67_0 x0) (g67_1 x0) (g67_2 x0)) ≤ List.length (g68_1 (g67_0 x0) (g67_1 x0) (g67_2 x0))) && true || !bif g151_0 (g67_0 x0) (g67_1 x0) then g151_0 (g67_0 x0) (g67_2 x0) else false) && ((decide ((0 : Int) < (↑(List.length (g68_1 (g67_0 x0) (g67_1 x0) (g67_2 x0))) : Int)) && (hasRow [Kd.bool] (g68_1 (g67_0 x0) (g67_1 x0) (g67_2 x0)) (0 : Nat) (0 : Nat) && true) || !bif bif g151_0 (g67_0 x0) (g67_1 x0) then g151_0 (g67_0 x0) (g67_2 x0) else false then (↑(List.length (g68_1 (g67_0 x0) (g67_1 x0) (g67_2 x0))) : Int) == (16 : Int) else false) && ((decide ((2 : Int) < (↑(List.length (g68_1 (g67_0 x0) (g67_1 x0) (g67_2 x0))) : Int)) && (hasRow [Kd.bool] (g68_1 (g67_0 x0) (g67_1 x0) (g67_2 x0)) (2 : Nat) (0 : Nat) && true) || !bif bif bif g151_0 (g67_0 x0) (g67_1 x0) then g151_0 (g67_0 x0) (g67_2 x0) else false then (↑(List.length (g68_1 (g67_0 x0) (g67_1 x0) (g67_2 x0))) : Int) == (16 : Int) else false then boolAt (g68_1 (g67_0 x0) (g67_1 x0) (g67_2 x0)) (0 : Nat) (0 : Nat) else false) && ((decide ((4 : Int) < (↑(List.length (g68_1 (g67_0 x0) (g67_1 x0) (g67_2 x0))) : Int)) && (hasRow [Kd.bool] (g68_1 (g67_0 x0) (g67_1 x0) (g67_2 x0)) (4 : Nat) (0 : Nat) && true) || !bif bif bif bif g151_0 (g67_0 x0) (g67_1 x0) then g151_0 (g67_0 x0) (g67_2 x0) else false then (↑(List.length (g68_1 (g67_0 x0) (g67_1 x0) (g67_2 x0))) : Int) == (16 : Int) else false then boolAt (g68_1 (g67_0 x0) (g67_1 x0) (g67_2 x0)) (0 : Nat) (0 : Nat) else false then boolAt (g68_1 (g67_0 x0) (g67_1 x0) (g67_2 x0)) (2 : Nat) (0 : Nat) == decide (g67_1 x0 > g67_2 x0) else false) && ((decide ((6 : Int) < (↑(List.length (g68_1 (g67_0 x0) (g67_1 x0) (g67_2 x0))) : Int)) && (hasRow [Kd.bool] (g68_1 (g67_0 x0) (g67_1 x0) (g67_2 x0)) (6 : Nat) (0 : Nat) && true) || !bif bif bif bif bif g151_0 (g67_0 x0) (g67_1 x0) then g151_0 (g67_0 x0) (g67_2 x0) else false then (↑(List.length (g68_1 (g67_0 x0) (g67_1 x0) (g67_2 x0))) : Int) == (16 : Int) else false then boolAt (g68_1 (g67_0 x0) (g67_1 x0) (g67_2 x0)) (0 : Nat) (0 : Nat) else false then boolAt (g68_1 (g67_0 x0) (g67_1 x0) (g67_2 x0)) (2 : Nat) (0 : Nat) == decide (g67_1 x0 > g67_2 x0) else false then boolAt (g68_1 (g67_0 x0) (g67_1 x0) (g67_2 x0)) (4 : Nat) (0 : Nat) == decide (g67_1 x0 ≥ g67_2 x0) else false) && ((decide ((12 : Int) < (↑(List.length (g68_1 (g67_0 x0) (g67_1 x0) (g67_2 x0))) : Int)) && (hasRow [Kd.bool] (g68_1 (g67_0 x0) (g67_1 x0) (g67_2 x0)) (12 : Nat) (0 : Nat) && true) || !bif bif bif bif bif bif g151_0 (g67_0 x0) (g67_1 x0) then g151_0 (g67_0 x0) (g67_2 x0) else false then (↑(List.length (g68_1 (g67_0 x0) (g67_1 x0) (g67_2 x0))) : Int) == (16 : Int) else false then boolAt (g68_1 (g67_0 x0) (g67_1 x0) (g67_2 x0)) (0 : Nat) (0 : Nat) else false then boolAt (g68_1 (g67_0 x0) (g67_1 x0) (g67_2 x0)) (2 : Nat) (0 : Nat) == decide (g67_1 x0 > g67_2 x0) else false then boolAt (g68_1 (g67_0 x0) (g67_1 x0) (g67_2 x0)) (4 : Nat) (0 : Nat) == decide (g67_1 x0 ≥ g67_2 x0) else false then boolAt (g68_1 (g67_0 x0) (g67_1 x0) (g67_2 x0)) (6 : Nat) (0 : Nat) == (g67_1 x0 != g67_2 x0) else false) && ((decide ((14 : Int) < (↑(List.length (g68_1 (g67_0 x0) (g67_1 x0) (g67_2 x0))) : Int)) && (hasRow [Kd.bool] (g68_1 (g67_0 x0) (g67_1 x0) (g67_2 x0)) (14 : Nat) (0 : Nat) && true) || !bif bif bif bif bif bif bif g151_0 (g67_0 x0) (g67_1 x0) then g151_0 (g67_0 x0) (g67_2 x0) else false then (↑(List.length (g68_1 (g67_0 x0) (g67_1 x0) (g67_2 x0))) : Int) == (16 : Int) else false then boolAt (g68_1 (g67_0 x0) (g67_1 x0) (g67_2 x0)) (0 : Nat) (0 : Nat) else false then boolAt (g68_1 (g67_0 x0) (g67_1 x0) (g67_2 x0)) (2 : Nat) (0 : Nat) == decide (g67_1 x0 > g67_2 x0) else false then boolAt (g68_1 (g67_0 x0) (g67_1 x0) (g67_2 x0)) (4 : Nat) (0 : Nat) == decide (g67_1 x0 ≥ g67_2 x0) else false then boolAt (g68_1 (g67_0 x0) (g67_1 x0) (g67_2 x0)) (6 : Nat) (0 : Nat) == (g67_1 x0 != g67_2 x0) else false then boolAt (g68_1 (g67_0 x0) (g67_1 x0) (g67_2 x0)) (12 : Nat) (0 : Nat) == decide (g33_0 (g67_0 x0) (g67_1 x0) ≥ g33_0 (g67_0 x0) (g67_2 x0)) else false) && ((decide ((13 : Int) < (↑(List.length (g68_1 (g67_0 x0) (g67_1 x0) (g67_2 x0))) : Int)) && (hasRow [Kd.bool] (g68_1 (g67_0 x0) (g67_1 x0) (g67_2 x0)) (13 : Nat) (0 : Nat) && true) || !bif bif bif bif bif bif bif bif g151_0 (g67_0 x0) (g67_1 x0) then g151_0 (g67_0 x0) (g67_2 x0) else false then (↑(List.length (g68_1 (g67_0 x0) (g67_1 x0) (g67_2 x0))) : Int) == (16 : Int) else false then boolAt (g68_1 (g67_0 x0) (g67_1 x0) (g67_2 x0)) (0 : Nat) (0 : Nat) else false then boolAt (g68_1 (g67_0 x0) (g67_1 x0) (g67_2 x0)) (2 : Nat) (0 : Nat) == decide (g67_1 x0 > g67_2 x0) else false then boolAt (g68_1 (g67_0 x0) (g67_1 x0) (g67_2 x0)) (4 : Nat) (0 : Nat) == decide (g67_1 x0 ≥ g67_2 x0) else false then boolAt (g68_1 (g67_0 x0) (g67_1 x0) (g67_2 x0)) (6 : Nat) (0 : Nat) == (g67_1 x0 != g67_2 x0) else false then boolAt (g68_1 (g67_0 x0) (g67_1 x0) (g67_2 x0)) (12 : Nat) (0 : Nat) == decide (g33_0 (g67_0 x0) (g67_1 x0) ≥ g33_0 (g67_0 x0) (g67_2 x0)) else false then boolAt (g68_1 (g67_0 x0) (g67_1 x0) (g67_2 x0)) (14 : Nat) (0 : Nat) == decide (g33_0 (g67_0 x0) (g67_1 x0) > g33_0 (g67_0 x0) (g67_2 x0)) else false) && ((decide ((15 : Int) < (↑(List.length (g68_1 (g67_0 x0) (g67_1 x0) (g67_2 x0))) : Int)) && (hasRow [Kd.bool] (g68_1 (g67_0 x0) (g67_1 x0) (g67_2 x0)) (15 : Nat) (0 : Nat) && true) || !bif bif bif bif bif bif bif bif bif g151_0 (g67_0 x0) (g67_1 x0) then g151_0 (g67_0 x0) (g67_2 x0) else false then (↑(List.length (g68_1 (g67_0 x0) (g67_1 x0) (g67_2 x0))) : Int) == (16 : Int) else false then boolAt (g68_1 (g67_0 x0) (g67_1 x0) (g67_2 x0)) (0 : Nat) (0 : Nat) else false then boolAt (g68_1 (g67_0 x0) (g67_1 x0) (g67_2 x0)) (2 : Nat) (0 : Nat) == decide (g67_1 x0 > g67_2 x0) else false then boolAt (g68_1 (g67_0 x0) (g67_1 x0) (g67_2 x0)) (4 : Nat) (0 : Nat) == decide (g67_1 x0 ≥ g67_2 x0) else false then boolAt (g68_1 (g67_0 x0) (g67_1 x0) (g67_2 x0)) (6 : Nat) (0 : Nat) == (g67_1 x0 != g67_2 x0) else false then boolAt (g68_1 (g67_0 x0) (g67_1 x0) (g67_2 x0)) (12 : Nat) (0 : Nat) == decide (g33_0 (g67_0 x0) (g67_1 x0) ≥ g33_0 (g67_0 x0) (g67_2 x0)) else false then boolAt (g68_1 (g67_0 x0) (g67_1 x0) (g67_2 x0)) (14 : Nat) (0 : Nat) == decide (g33_0 (g67_0 x0) (g67_1 x0) > g33_0 (g67_0 x0) (g67_2 x0)) else false then boolAt (g68_1 (g67_0 x0) (g67_1 x0) (g67_2 x0)) (13 : Nat) (0 : Nat) == decide (g33_0 (g67_0 x0) (g67_1 x0) < g33_0 (g67_0 x0) (g67_2 x0)) else false) && true)))))))) && true || !g68_0 (g67_0 x0) (g67_1 x0) (g67_2 x0)) || bif !g68_0 (g67_0 x0) (g67_1 x0) (g67_2 x0) == g69_0 (g67_0 x0) (g67_1 x0) (g67_2 x0) then true else !g70_0 false (List.take (List.length (g68_1 (g67_0 x0) (g67_1 x0) (g67_2 x0))) (List.drop (0 : Nat) (g68_1 (g67_0 x0) (g67_1 x0) (g67_2 x0)))) false (List.take (List.length (g69_1 (g67_0 x0) (g67_1 x0) (g67_2 x0))) (List.drop (0 : Nat) (g69_1 (g67_0 x0) (g67_1 x0) (g67_2 x0))))))) || decide ((↑(List.length x0) : Int) > (1048576 : Int))) && true) := by rw [d8, c8_0]
def q8 : List SV → List Blk → Option ((SV × List Blk) × Bool)
  | [.one (.imm true 1 x0)], [] => some ((SV.one (T.lit (Value.bool (g8_0 x0))), []), bytesOk x0 && ((decide ((0 : Int) ≤ IntKind.wrap IntKind.i64 ((8 : Int) * g67_0 x0)) || bif !g151_0 (g67_0 x0) (g67_1 x0) then true else !g151_0 (g67_0 x0) (g67_2 x0)) && ((Option.isSome (L70_0 (70 : Nat) false (g68_1 (g67_0 x0) (g67_1 x0) (g67_2 x0)) false (g69_1 (g67_0 x0) (g67_1 x0) (g67_2 x0)) (↑(List.length (g68_1 (g67_0 x0) (g67_1 x0) (g67_2 x0))) : Int) (0 : Int)) || (↑(List.length (g68_1 (g67_0 x0) (g67_1 x0) (g67_2 x0))) : Int) != (↑(List.length (g69_1 (g67_0 x0) (g67_1 x0) (g67_2 x0))) : Int) || !g68_0 (g67_0 x0) (g67_1 x0) (g67_2 x0) == g69_0 (g67_0 x0) (g67_1 x0) (g67_2 x0)) && ((decide ((0 : Int) < (↑(List.length (g68_1 (g67_0 x0) (g67_1 x0) (g67_2 x0))) : Int)) && hasRow [Kd.bool] (g68_1 (g67_0 x0) (g67_1 x0) (g67_2 x0)) (0 : Nat) (0 : Nat) || !bif bif g151_0 (g67_0 x0) (g67_1 x0) then g151_0 (g67_0 x0) (g67_2 x0) else false then (↑(List.length (g68_1 (g67_0 x0) (g67_1 x0) (g67_2 x0))) : Int) == (16 : Int) else false) && ((decide ((2 : Int) < (↑(List.length (g68_1 (g67_0 x0) (g67_1 x0) (g67_2 x0))) : Int)) && hasRow [Kd.bool] (g68_1 (g67_0 x0) (g67_1 x0) (g67_2 x0)) (2 : Nat) (0 : Nat) || !bif bif bif g151_0 (g67_0 x0) (g67_1 x0) then g151_0 (g67_0 x0) (g67_2 x0) else false then (↑(List.length (g68_1 (g67_0 x0) (g67_1 x0) (g67_2 x0))) : Int) == (16 : Int) else false then boolAt (g68_1 (g67_0 x0) (g67_1 x0) (g67_2 x0)) (0 : Nat) (0 : Nat) else false) && ((decide ((4 : Int) < (↑(List.length (g68_1 (g67_0 x0) (g67_1 x0) (g67_2 x0))) : Int)) && hasRow [Kd.bool] (g68_1 (g67_0 x0) (g67_1 x0) (g67_2 x0)) (4 : Nat) (0 : Nat) || !bif bif bif bif g151_0 (g67_0 x0) (g67_1 x0) then g151_0 (g67_0 x0) (g67_2 x0) else false then (↑(List.length (g68_1 (g67_0 x0) (g67_1 x0) (g67_2 x0))) : Int) == (16 : Int) else false then boolAt (g68_1 (g67_0 x0) (g67_1 x0) (g67_2 x0)) (0 : Nat) (0 : Nat) else false then boolAt (g68_1 (g67_0 x0) (g67_1 x0) (g67_2 x0)) (2 : Nat) (0 : Nat) == decide (g67_1 x0 > g67_2 x0) else false) && ((decide ((6 : Int) < (↑(List.length (g68_1 (g67_0 x0) (g67_1 x0) (g67_2 x0))) : Int)) && hasRow [Kd.bool] (g68_1 (g67_0 x0) (g67_1 x0) (g67_2 x0)) (6 : Nat) (0 : Nat) || !bif bif bif bif bif g151_0 (g67_0 x0) (g67_1 x0) then g151_0 (g67_0 x0) (g67_2 x0) else false then (↑(List.length (g68_1 (g67_0 x0) (g67_1 x0) (g67_2 x0))) : Int) == (16 : Int) else false then boolAt (g68_1 (g67_0 x0) (g67_1 x0) (g67_2 x0)) (0 : Nat) (0 : Nat) else false then boolAt (g68_1 (g67_0 x0) (g67_1 x0) (g67_2 x0)) (2 : Nat) (0 : Nat) == decide (g67_1 x0 > g67_2 x0) else false then boolAt (g68_1 (g67_0 x0) (g67_1 x0) (g67_2 x0)) (4 : Nat) (0 : Nat) == decide (g67_1 x0 ≥ g67_2 x0) else false) && ((decide ((12 : Int) < (↑(List.length (g68_1 (g67_0 x0) (g67_1 x0) (g67_2 x0))) : Int)) && hasRow [Kd.bool] (g68_1 (g67_0 x0) (g67_1 x0) (g67_2 x0)) (12 : Nat) (0 : Nat) || !bif bif bif bif bif bif g151_0 (g67_0 x0) (g67_1 x0) then g151_0 (g67_0 x0) (g67_2 x0) else false then (↑(List.length (g68_1 (g67_0 x0) (g67_1 x0) (g67_2 x0))) : Int) == (16 : Int) else false then boolAt (g68_1 (g67_0 x0) (g67_1 x0) (g67_2 x0)) (0 : Nat) (0 : Nat) else false then boolAt (g68_1 (g67_0 x0) (g67_1 x0) (g67_2 x0)) (2 : Nat) (0 : Nat) == decide (g67_1 x0 > g67_2 x0) else false then boolAt (g68_1 (g67_0 x0) (g67_1 x0) (g67_2 x0)) (4 : Nat) (0 : Nat) == decide (g67_1 x0 ≥ g67_2 x0) else false then boolAt (g68_1 (g67_0 x0) (g67_1 x0) (g67_2 x0)) (6 : Nat) (0 : Nat) == (g67_1 x0 != g67_2 x0) else false) && ((decide ((14 : Int) < (↑(List.length (g68_1 (g67_0 x0) (g67_1 x0) (g67_2 x0))) : Int)) && hasRow [Kd.bool] (g68_1 (g67_0 x0) (g67_1 x0) (g67_2 x0)) (14 : Nat) (0 : Nat) || !bif bif bif bif bif bif bif g151_0 (g67_0 x0) (g67_1 x0) then g151_0 (g67_0 x0) (g67_2 x0) else false then (↑(List.length (g68_1 (g67_0 x0) (g67_1 x0) (g67_2 x0))) : Int) == (16 : Int) else false then boolAt (g68_1 (g67_0 x0) (g67_1 x0) (g67_2 x0)) (0 : Nat) (0 : Nat) else false then boolAt (g68_1 (g67_0 x0) (g67_1 x0) (g67_2 x0)) (2 : Nat) (0 : Nat) == decide (g67_1 x0 > g67_2 x0) else false then boolAt (g68_1 (g67_0 x0) (g67_1 x0) (g67_2 x0)) (4 : Nat) (0 : Nat) == decide (g67_1 x0 ≥ g67_2 x0) else false then boolAt (g68_1 (g67_0 x0) (g67_1 x0) (g67_2 x0)) (6 : Nat) (0 : Nat) == (g67_1 x0 != g67_2 x0) else false then boolAt (g68_1 (g67_0 x0) (g67_1 x0) (g67_2 x0)) (12 : Nat) (0 : Nat) == decide (g33_0 (g67_0 x0) (g67_1 x0) ≥ g33_0 (g67_0 x0) (g67_2 x0)) else false) && ((decide ((13 : Int) < (↑(List.length (g68_1 (g67_0 x0) (g67_1 x0) (g67_2 x0))) : Int)) && hasRow [Kd.bool] (g68_1 (g67_0 x0) (g67_1 x0) (g67_2 x0)) (13 : Nat) (0 : Nat) || !bif bif bif bif bif bif bif bif g151_0 (g67_0 x0) (g67_1 x0) then g151_0 (g67_0 x0) (g67_2 x0) else false then (↑(List.length (g68_1 (g67_0 x0) (g67_1 x0) (g67_2 x0))) : Int) == (16 : Int) else false then boolAt (g68_1 (g67_0 x0) (g67_1 x0) (g67_2 x0)) (0 : Nat) (0 : Nat) else false then boolAt (g68_1 (g67_0 x0) (g67_1 x0) (g67_2 x0)) (2 : Nat) (0 : Nat) == decide (g67_1 x0 > g67_2 x0) else false then boolAt (g68_1 (g67_0 x0) (g67_1 x0) (g67_2 x0)) (4 : Nat) (0 : Nat) == decide (g67_1 x0 ≥ g67_2 x0) else false then boolAt (g68_1 (g67_0 x0) (g67_1 x0) (g67_2 x0)) (6 : Nat) (0 : Nat) == (g67_1 x0 != g67_2 x0) else false then boolAt (g68_1 (g67_0 x0) (g67_1 x0) (g67_2 x0)) (12 : Nat) (0 : Nat) == decide (g33_0 (g67_0 x0) (g67_1 x0) ≥ g33_0 (g67_0 x0) (g67_2 x0)) else false then boolAt (g68_1 (g67_0 x0) (g67_1 x0) (g67_2 x0)) (14 : Nat) (0 : Nat) == decide (g33_0 (g67_0 x0) (g67_1 x0) > g33_0 (g67_0 x0) (g67_2 x0)) else false) && (decide ((15 : Int) < (↑(List.length (g68_1 (g67_0 x0) (g67_1 x0) (g67_2 x0))) : Int)) && hasRow [Kd.bool] (g68_1 (g67_0 x0) (g67_1 x0) (g67_2 x0)) (15 : Nat) (0 : Nat) || !bif bif bif bif bif bif bif bif bif g151_0 (g67_0 x0) (g67_1 x0) then g151_0 (g67_0 x0) (g67_2 x0) else false then (↑(List.length (g68_1 (g67_0 x0) (g67_1 x0) (g67_2 x0))) : Int) == (16 : Int) else false then boolAt (g68_1 (g67_0 x0) (g67_1 x0) (g67_2 x0)) (0 : Nat) (0 : Nat) else false then boolAt (g68_1 (g67_0 x0) (g67_1 x0) (g67_2 x0)) (2 : Nat) (0 : Nat) == decide (g67_1 x0 > g67_2 x0) else false then boolAt (g68_1 (g67_0 x0) (g67_1 x0) (g67_2 x0)) (4 : Nat) (0 : Nat) == decide (g67_1 x0 ≥ g67_2 x0) else false then boolAt (g68_1 (g67_0 x0) (g67_1 x0) (g67_2 x0)) (6 : Nat) (0 : Nat) == (g67_1 x0 != g67_2 x0) else false then boolAt (g68_1 (g67_0 x0) (g67_1 x0) (g67_2 x0)) (12 : Nat) (0 : Nat) == decide (g33_0 (g67_0 x0) (g67_1 x0) ≥ g33_0 (g67_0 x0) (g67_2 x0)) else false then boolAt (g68_1 (g67_0 x0) (g67_1 x0) (g67_2 x0)) (14 : Nat) (0 : Nat) == decide (g33_0 (g67_0 x0) (g67_1 x0) > g33_0 (g67_0 x0) (g67_2 x0)) else false then boolAt (g68_1 (g67_0 x0) (g67_1 x0) (g67_2 x0)) (13 : Nat) (0 : Nat) == decide (g33_0 (g67_0 x0) (g67_1 x0) < g33_0 (g67_0 x0) (g67_2 x0)) else false))))))) || !g68_0 (g67_0 x0) (g67_1 x0) (g67_2 x0) || bif !g68_0 (g67_0 x0) (g67_1 x0) (g67_2 x0) == g69_0 (g67_0 x0) (g67_1 x0) (g67_2 x0) then true else !g70_0 false (g68_1 (g67_0 x0) (g67_1 x0) (g67_2 x0)) false (g69_1 (g67_0 x0) (g67_1 x0) (g67_2 x0)))) || decide ((↑(List.length x0) : Int) > (1048576 : Int))))
  | _, _ => none
theorem t8 (args : List SV) (hp : List Blk) (r : SV × List Blk) (h : q8 args hp = some (r, true)) : R 8 args hp = some r := by
  unfold q8 at h
  split at h
  · rename_i x0; exact R_fn at8 0 (fnT_run Q70_ok (okTrans (e8 x0) (k8 x0) h))
  · simp at h
noncomputable def Q8 : Qt := qcons 8 q8 Q70
theorem Q8_ok : QOk R Q8 := qcons_ok t8 Q70_ok
end Go.Proofs.YtckjibiolfapiaaCompared
