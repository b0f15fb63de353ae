/- What each function gives, and that it does. Printed. -/
import Derived.Test.YtckjibiolfapiaaZqTabProducts
import Derived.Test.YtckjibiolfapiaaZqCur
import Derived.KernelRfl
import Derived.Test.YtckjibiolfapiaaZqProductsR
set_option linter.unusedVariables false
set_option linter.unusedSimpArgs false
namespace Go.Proofs.YtckjibiolfapiaaProducts
open Go Go.Zq
set_option maxRecDepth 100000
/-! impl.within -/
def g142_0 (x0 : Int) (x1 : Int) (x2 : Int) : Bool := bif decide (x0 ≥ x1) then decide (x0 ≤ x2) else false
theorem e142 (x0 : Int) (x1 : Int) (x2 : Int) : fnT qnil [] [] 0 F142 [.one (.lit (.int .i64 x0)), .one (.lit (.int .i64 x1)), .one (.lit (.int .i64 x2))] [] = some ((SV.one (T.lit (Value.bool (g142_0 x0 x1 x2))), []), true) := by kernel_rfl
def q142 : List SV → List Blk → Option ((SV × List Blk) × Bool)
  | [.one (.lit (.int .i64 x0)), .one (.lit (.int .i64 x1)), .one (.lit (.int .i64 x2))], [] => some ((SV.one (T.lit (Value.bool (g142_0 x0 x1 x2))), []), true)
  | _, _ => none
theorem t142 (args : List SV) (hp : List Blk) (r : SV × List Blk) (h : q142 args hp = some (r, true)) : R 142 args hp = some r := by
  unfold q142 at h
  split at h
  · rename_i x0 x1 x2; exact R_fn at142 0 (fnT_run qnil_ok ((e142 x0 x1 x2).trans h))
  · simp at h
noncomputable def Q142 : Qt := qcons 142 q142 qnil
theorem Q142_ok : QOk R Q142 := qcons_ok t142 qnil_ok
/-! impl.isSize -/
def g198_0 (x0 : Int) : Bool := bif x0 == (1 : Int) then true else x0 == (2 : Int)
theorem e198 (x0 : Int) : fnT Q142 [] [] 0 F198 [.one (.lit (.int .i64 x0))] [] = some ((SV.one (T.lit (Value.bool (g198_0 x0))), []), true) := by kernel_rfl
def q198 : List SV → List Blk → Option ((SV × List Blk) × Bool)
  | [.one (.lit (.int .i64 x0))], [] => some ((SV.one (T.lit (Value.bool (g198_0 x0))), []), true)
  | _, _ => none
theorem t198 (args : List SV) (hp : List Blk) (r : SV × List Blk) (h : q198 args hp = some (r, true)) : R 198 args hp = some r := by
  unfold q198 at h
  split at h
  · rename_i x0; exact R_fn at198 0 (fnT_run Q142_ok ((e198 x0).trans h))
  · simp at h
noncomputable def Q198 : Qt := qcons 198 q198 Q142
theorem Q198_ok : QOk R Q198 := qcons_ok t198 Q142_ok
theorem size_iff {s : Int} : g198_0 s = true ↔ s = 1 ∨ s = 2 := by
  unfold g198_0
  cases h : s == 1 <;> simp_all
theorem size_pos {s : Int} (h : g198_0 s = true) : 0 ≤ IntKind.wrap IntKind.i64 (8 * s) := by
  rcases size_iff.1 h with rfl | rfl <;> decide
/-! impl.limitOf -/
def g218_0 (x0 : Int) : Int := IntKind.wrap IntKind.i64 ((1 : Int) * (2 : Int) ^ min (Int.toNat (IntKind.wrap IntKind.i64 ((8 : Int) * x0))) (64 : Nat))
theorem k218 (x0 : Int) (h : (decide ((0 : Int) ≤ IntKind.wrap IntKind.i64 ((8 : Int) * x0))) = true) : (decide ((0 : Int) ≤ IntKind.wrap IntKind.i64 ((8 : Int) * x0)) && true && true && true) = true := by
  have h0 := h
  simp only [h0, Bool.and_true, Bool.true_and, Bool.or_true, Bool.true_or, Bool.or_false, Bool.false_or, Bool.and_self, Bool.cond_self, Bool.not_true, Bool.not_false, Bool.false_and, Bool.and_false, u64_dec, Nat.zero_add, Nat.le_refl, decide_true, eq_self, List.drop_zero, List.take_length]
theorem e218 (x0 : Int) : fnT Q198 [] [] 0 F218 [.one (.lit (.int .i64 x0))] [] = some ((SV.one (T.lit (Value.int IntKind.i64 (g218_0 x0))), []), decide ((0 : Int) ≤ IntKind.wrap IntKind.i64 ((8 : Int) * x0)) && true && true && true) := by kernel_rfl
def q218 : List SV → List Blk → Option ((SV × List Blk) × Bool)
  | [.one (.lit (.int .i64 x0))], [] => some ((SV.one (T.lit (Value.int IntKind.i64 (g218_0 x0))), []), decide ((0 : Int) ≤ IntKind.wrap IntKind.i64 ((8 : Int) * x0)))
  | _, _ => none
theorem t218 (args : List SV) (hp : List Blk) (r : SV × List Blk) (h : q218 args hp = some (r, true)) : R 218 args hp = some r := by
  unfold q218 at h
  split at h
  · rename_i x0; exact R_fn at218 0 (fnT_run Q198_ok (okTrans (e218 x0) (k218 x0) h))
  · simp at h
noncomputable def Q218 : Qt := qcons 218 q218 Q198
theorem Q218_ok : QOk R Q218 := qcons_ok t218 Q198_ok
/-! impl.isValue -/
def g151_0 (x0 : Int) (x1 : Int) : Bool := bif g198_0 x0 then g142_0 x1 (0 : Int) (IntKind.wrap IntKind.i64 (g218_0 x0 - (1 : Int))) else false
theorem k151 (x0 : Int) (x1 : Int) (h : (true) = true) : ((decide ((0 : Int) ≤ IntKind.wrap IntKind.i64 ((8 : Int) * x0)) && true || !g198_0 x0) && true && true && true) = true := by
  cases hs : g198_0 x0
  · simp
  · simp [size_pos hs]
theorem e151 (x0 : Int) (x1 : Int) : fnT Q218 [] [] 0 F151 [.one (.lit (.int .i64 x0)), .one (.lit (.int .i64 x1))] [] = some ((SV.one (T.lit (Value.bool (g151_0 x0 x1))), []), (decide ((0 : Int) ≤ IntKind.wrap IntKind.i64 ((8 : Int) * x0)) && true || !g198_0 x0) && true && true && true) := by kernel_rfl
def q151 : List SV → List Blk → Option ((SV × List Blk) × Bool)
  | [.one (.lit (.int .i64 x0)), .one (.lit (.int .i64 x1))], [] => some ((SV.one (T.lit (Value.bool (g151_0 x0 x1))), []), true)
  | _, _ => none
theorem t151 (args : List SV) (hp : List Blk) (r : SV × List Blk) (h : q151 args hp = some (r, true)) : R 151 args hp = some r := by
  unfold q151 at h
  split at h
  · rename_i x0 x1; exact R_fn at151 0 (fnT_run Q218_ok (okTrans (e151 x0 x1) (k151 x0 x1) h))
  · simp at h
noncomputable def Q151 : Qt := qcons 151 q151 Q218
theorem Q151_ok : QOk R Q151 := qcons_ok t151 Q218_ok
/-! impl.signedOf -/
def g157_0 (x0 : Int) (x1 : Int) : Int := bif decide (x1 ≥ IntKind.wrap IntKind.i64 (Int.tdiv (g218_0 x0) (2 : Int))) then IntKind.wrap IntKind.i64 (x1 - g218_0 x0) else x1
theorem k157 (x0 : Int) (x1 : Int) (h : (decide ((0 : Int) ≤ IntKind.wrap IntKind.i64 ((8 : Int) * x0))) = true) : (decide ((0 : Int) ≤ IntKind.wrap IntKind.i64 ((8 : Int) * x0)) && true && ((decide ((0 : Int) ≤ IntKind.wrap IntKind.i64 ((8 : Int) * x0)) && true && true || !decide (x1 ≥ IntKind.wrap IntKind.i64 (Int.tdiv (g218_0 x0) (2 : Int)))) && true) && true && true) = true := by
  have h0 := h
  simp only [h0, Bool.and_true, Bool.true_and, Bool.or_true, Bool.true_or, Bool.or_false, Bool.false_or, Bool.and_self, Bool.cond_self, Bool.not_true, Bool.not_false, Bool.false_and, Bool.and_false, u64_dec, Nat.zero_add, Nat.le_refl, decide_true, eq_self, List.drop_zero, List.take_length]
theorem e157 (x0 : Int) (x1 : Int) : fnT Q151 [] [] 0 F157 [.one (.lit (.int .i64 x0)), .one (.lit (.int .i64 x1))] [] = some ((SV.one (T.lit (Value.int IntKind.i64 (g157_0 x0 x1))), []), decide ((0 : Int) ≤ IntKind.wrap IntKind.i64 ((8 : Int) * x0)) && true && ((decide ((0 : Int) ≤ IntKind.wrap IntKind.i64 ((8 : Int) * x0)) && true && true || !decide (x1 ≥ IntKind.wrap IntKind.i64 (Int.tdiv (g218_0 x0) (2 : Int)))) && true) && true && true) := by kernel_rfl
def q157 : List SV → List Blk → Option ((SV × List Blk) × Bool)
  | [.one (.lit (.int .i64 x0)), .one (.lit (.int .i64 x1))], [] => some ((SV.one (T.lit (Value.int IntKind.i64 (g157_0 x0 x1))), []), decide ((0 : Int) ≤ IntKind.wrap IntKind.i64 ((8 : Int) * x0)))
  | _, _ => none
theorem t157 (args : List SV) (hp : List Blk) (r : SV × List Blk) (h : q157 args hp = some (r, true)) : R 157 args hp = some r := by
  unfold q157 at h
  split at h
  · rename_i x0 x1; exact R_fn at157 0 (fnT_run Q151_ok (okTrans (e157 x0 x1) (k157 x0 x1) h))
  · simp at h
noncomputable def Q157 : Qt := qcons 157 q157 Q151
theorem Q157_ok : QOk R Q157 := qcons_ok t157 Q151_ok
/-! impl.SignedOf -/
def g33_0 (x0 : Int) (x1 : Int) : Int := bif !g151_0 x0 x1 then (0 : Int) else g157_0 x0 x1
def r33_1 (x0 : Int) (x1 : Int) : Bool := bif !g151_0 x0 x1 then false else true
theorem c33_1 (x0 : Int) (x1 : Int) : r33_1 x0 x1 = g151_0 x0 x1 := by simp only [r33_1, Bool.cond_self, bif_tf, bif_ft, Bool.not_not, List.drop_zero, List.take_length]
theorem k33 (x0 : Int) (x1 : Int) (h : (true) = true) : ((decide ((0 : Int) ≤ IntKind.wrap IntKind.i64 ((8 : Int) * x0)) && true && true || !g151_0 x0 x1) && true) = true := by
  cases hs : g198_0 x0
  · simp [g151_0, hs]
  · simp [size_pos hs]
theorem d33 (x0 : Int) (x1 : Int) : fnT Q157 [] [] 0 F33 [.one (.lit (.int .i64 x0)), .one (.lit (.int .i64 x1))] [] = some ((SV.tup [SV.one (T.lit (Value.int IntKind.i64 (g33_0 x0 x1))), SV.one (T.lit (Value.bool (r33_1 x0 x1)))], []), (decide ((0 : Int) ≤ IntKind.wrap IntKind.i64 ((8 : Int) * x0)) && true && true || !g151_0 x0 x1) && true) := by kernel_rfl
theorem e33 (x0 : Int) (x1 : Int) : fnT Q157 [] [] 0 F33 [.one (.lit (.int .i64 x0)), .one (.lit (.int .i64 x1))] [] = some ((SV.tup [SV.one (T.lit (Value.int IntKind.i64 (g33_0 x0 x1))), SV.one (T.lit (Value.bool (g151_0 x0 x1)))], []), (decide ((0 : Int) ≤ IntKind.wrap IntKind.i64 ((8 : Int) * x0)) && true && true || !g151_0 x0 x1) && true) := by rw [d33, c33_1]
def q33 : List SV → List Blk → Option ((SV × List Blk) × Bool)
  | [.one (.lit (.int .i64 x0)), .one (.lit (.int .i64 x1))], [] => some ((SV.tup [SV.one (T.lit (Value.int IntKind.i64 (g33_0 x0 x1))), SV.one (T.lit (Value.bool (g151_0 x0 x1)))], []), true)
  | _, _ => none
theorem t33 (args : List SV) (hp : List Blk) (r : SV × List Blk) (h : q33 args hp = some (r, true)) : R 33 args hp = some r := by
  unfold q33 at h
  split at h
  · rename_i x0 x1; exact R_fn at33 0 (fnT_run Q157_ok (okTrans (e33 x0 x1) (k33 x0 x1) h))
  · simp at h
noncomputable def Q33 : Qt := qcons 33 q33 Q157
theorem Q33_ok : QOk R Q33 := qcons_ok t33 Q157_ok
/-! (*spec.l1Cur).next -/
theorem e217 (x0_0 : List Row) (x0_1 : Int) (x0_2 : Int) : fnT qnil [(7, [.int .i64]), (11, [.imm 1]), (17, [.imm 1]), (21, [.int .i64]), (22, [.int .u8]), (23, [.int .u8]), (28, [.int .i64]), (36, [.int .u64]), (47, [.int .i64]), (51, [.imm 1]), (58, [.int .u64])] [] 0 F217 [.one (.ptr 0 0 0)] [.box [.imm true 1 x0_0, .lit (.int .i64 x0_1), .lit (.int .u64 x0_2)]] = some ((SV.one (T.lit (Value.int IntKind.i64 (bif decide (IntKind.wrap IntKind.i64 (x0_1 + (1 : Int)) ≤ ↑(List.length x0_0)) then bif decide (x0_1 < ↑(List.length x0_0)) then IntKind.wrap IntKind.i64 (intAt x0_0 (Int.toNat x0_1) (0 : Nat)) else (0 : Int) else farOf (seedOf x0_2 (bif decide (x0_1 < ↑(List.length x0_0)) then IntKind.wrap IntKind.i64 (intAt x0_0 (Int.toNat x0_1) (0 : Nat)) else (0 : Int)))))),
      [Blk.box [T.imm true (1 : Nat) (bif decide (IntKind.wrap IntKind.i64 (x0_1 + (1 : Int)) ≤ ↑(List.length x0_0)) then x0_0 else x0_0), T.lit (Value.int IntKind.i64 (bif decide (IntKind.wrap IntKind.i64 (x0_1 + (1 : Int)) ≤ ↑(List.length x0_0)) then IntKind.wrap IntKind.i64 (x0_1 + (1 : Int)) else IntKind.wrap IntKind.i64 (x0_1 + (1 : Int)))),
        T.lit (Value.int IntKind.u64 (bif decide (IntKind.wrap IntKind.i64 (x0_1 + (1 : Int)) ≤ ↑(List.length x0_0)) then seedOf x0_2 (bif decide (x0_1 < ↑(List.length x0_0)) then IntKind.wrap IntKind.i64 (intAt x0_0 (Int.toNat x0_1) (0 : Nat)) else (0 : Int)) else seedOf x0_2 (bif decide (x0_1 < ↑(List.length x0_0)) then IntKind.wrap IntKind.i64 (intAt x0_0 (Int.toNat x0_1) (0 : Nat)) else (0 : Int))))]]),
      (inRow [Kd.int IntKind.u8] x0_0 x0_1 && true || !decide (x0_1 < ↑(List.length x0_0))) && true && true && true) := by kernel_rfl
def q217 : List SV → List Blk → Option ((SV × List Blk) × Bool)
  | [.one (.ptr 0 0 0)], [.box [.imm true 1 x0_0, .lit (.int .i64 x0_1), .lit (.int .u64 x0_2)]] => some ((SV.one (T.lit (Value.int IntKind.i64 (nextV x0_0 x0_1 x0_2))), [Blk.box [T.imm true 1 x0_0, T.lit (Value.int IntKind.i64 (x0_1 + 1)), T.lit (Value.int IntKind.u64 (nextS x0_0 x0_1 x0_2))]]), okTo 0 x0_1 && bytesOk x0_0)
  | _, _ => none
theorem t217 (args : List SV) (hp : List Blk) (r : SV × List Blk) (h : q217 args hp = some (r, true)) : R 217 args hp = some r := by
  unfold q217 at h
  split at h
  · exact R_fn at217 0 (fnT_run qnil_ok ((e217 _ _ _).trans (next_raw h)))
  · simp at h
noncomputable def Q217 : Qt := qcons 217 q217 Q33
theorem Q217_ok : QOk R Q217 := qcons_ok t217 Q33_ok
/-! (*spec.l1Cur).pick -/
def g141_0 (x0_0 : List Row) (x0_1 : Int) (x0_2 : Int) (x1 : Int) : Int := bif decide (x1 ≤ (1 : Int)) then (0 : Int) else Int.tmod (bif decide (x1 > (200 : Int)) then IntKind.wrap IntKind.i64 (IntKind.wrap IntKind.i64 (nextV x0_0 x0_1 x0_2 * (256 : Int)) + nextV x0_0 (x0_1 + (1 : Int)) (nextS x0_0 x0_1 x0_2)) else nextV x0_0 x0_1 x0_2) x1
def r141_1 (x0_0 : List Row) (x1 : Int) : List (List T) := bif decide (x1 ≤ (1 : Int)) then x0_0 else bif decide (x1 > (200 : Int)) then x0_0 else x0_0
theorem c141_1 (x0_0 : List Row) (x1 : Int) : r141_1 x0_0 x1 = x0_0 := by simp only [r141_1, Bool.cond_self, bif_tf, bif_ft, Bool.not_not, List.drop_zero, List.take_length]
def r141_2 (x0_1 : Int) (x1 : Int) : Int := bif decide (x1 ≤ (1 : Int)) then x0_1 else bif decide (x1 > (200 : Int)) then x0_1 + (1 : Int) + (1 : Int) else x0_1 + (1 : Int)
def g141_2 (x1 : Int) : Int := bif decide (x1 ≤ (1 : Int)) then (0 : Int) else bif decide (x1 > (200 : Int)) then (1 : Int) + (1 : Int) else (1 : Int)
theorem b141_2 (x1 : Int) : bd (g141_2 x1) 2 := by
  unfold g141_2
  exact (bd_cond (u := 0) (v := 2) (w := 2) ⟨by decide, by decide⟩ (bd_cond (u := 2) (v := 1) (w := 2) (bd_add (u := 1) (v := 1) (w := 2) ⟨by decide, by decide⟩ ⟨by decide, by decide⟩ (by decide)) ⟨by decide, by decide⟩ (by decide) (by decide)) (by decide) (by decide))
theorem c141_2 (x0_1 : Int) (x1 : Int) : r141_2 x0_1 x1 = x0_1 + g141_2 x1 := by simp only [r141_2, g141_2, bif_p1 x0_1, bif_p2 x0_1, bif_p3 x0_1, Int.add_assoc, Bool.cond_self]
def g141_3 (x0_0 : List Row) (x0_1 : Int) (x0_2 : Int) (x1 : Int) : Int := bif decide (x1 ≤ (1 : Int)) then x0_2 else bif decide (x1 > (200 : Int)) then nextS x0_0 (x0_1 + (1 : Int)) (nextS x0_0 x0_1 x0_2) else nextS x0_0 x0_1 x0_2
theorem k141 (x0_0 : List Row) (x0_1 : Int) (x0_2 : Int) (x1 : Int) (h : (bytesOk x0_0 && (okTo (1 : Int) x0_1 && (x1 != (0 : Int) || decide (x1 ≤ (1 : Int))))) = true) : ((okTo (0 : Int) x0_1 && bytesOk x0_0 && true && ((okTo (0 : Int) (x0_1 + (1 : Int)) && bytesOk x0_0 && true || !decide (x1 > (200 : Int))) && true && (x1 != (0 : Int) && true && true)) || decide (x1 ≤ (1 : Int))) && true) = true := by
  obtain ⟨h0, h⟩ := Bool.and_eq_true_iff.1 h
  obtain ⟨h1, h⟩ := Bool.and_eq_true_iff.1 h
  have h2 := h
  have p0 : (okTo (0 : Int) x0_1) = true := (okTo_le (v := 0) h1 (by decide))
  have p1 : (okTo (0 : Int) (x0_1 + (1 : Int))) = true := (okTo_add (u := 1) (v := 0) (w := 1) (okTo_le (v := 1) h1 (by decide)) ⟨by decide, by decide⟩ (by decide))
  simp only [h0, h2, p0, p1, Bool.and_true, Bool.true_and, Bool.or_true, Bool.true_or, Bool.or_false, Bool.false_or, Bool.and_self, Bool.cond_self, Bool.not_true, Bool.not_false, Bool.false_and, Bool.and_false, u64_dec, Nat.zero_add, Nat.le_refl, decide_true, eq_self, List.drop_zero, List.take_length]
theorem d141 (x0_0 : List Row) (x0_1 : Int) (x0_2 : Int) (x1 : Int) : fnT Q217 [] [] 0 F141 [.one (.ptr 0 0 0), .one (.lit (.int .i64 x1))] [.box [.imm true 1 x0_0, .lit (.int .i64 x0_1), .lit (.int .u64 x0_2)]] = some ((SV.one (T.lit (Value.int IntKind.i64 (g141_0 x0_0 x0_1 x0_2 x1))), [Blk.box [T.imm true (1 : Nat) (r141_1 x0_0 x1), T.lit (Value.int IntKind.i64 (r141_2 x0_1 x1)), T.lit (Value.int IntKind.u64 (g141_3 x0_0 x0_1 x0_2 x1))]]), (okTo (0 : Int) x0_1 && bytesOk x0_0 && true && ((okTo (0 : Int) (x0_1 + (1 : Int)) && bytesOk x0_0 && true || !decide (x1 > (200 : Int))) && true && (x1 != (0 : Int) && true && true)) || decide (x1 ≤ (1 : Int))) && true) := by kernel_rfl
theorem e141 (x0_0 : List Row) (x0_1 : Int) (x0_2 : Int) (x1 : Int) : fnT Q217 [] [] 0 F141 [.one (.ptr 0 0 0), .one (.lit (.int .i64 x1))] [.box [.imm true 1 x0_0, .lit (.int .i64 x0_1), .lit (.int .u64 x0_2)]] = some ((SV.one (T.lit (Value.int IntKind.i64 (g141_0 x0_0 x0_1 x0_2 x1))), [Blk.box [T.imm true (1 : Nat) x0_0, T.lit (Value.int IntKind.i64 (x0_1 + g141_2 x1)), T.lit (Value.int IntKind.u64 (g141_3 x0_0 x0_1 x0_2 x1))]]), (okTo (0 : Int) x0_1 && bytesOk x0_0 && true && ((okTo (0 : Int) (x0_1 + (1 : Int)) && bytesOk x0_0 && true || !decide (x1 > (200 : Int))) && true && (x1 != (0 : Int) && true && true)) || decide (x1 ≤ (1 : Int))) && true) := by rw [d141, c141_1, c141_2]
def q141 : List SV → List Blk → Option ((SV × List Blk) × Bool)
  | [.one (.ptr 0 0 0), .one (.lit (.int .i64 x1))], [.box [.imm true 1 x0_0, .lit (.int .i64 x0_1), .lit (.int .u64 x0_2)]] => some ((SV.one (T.lit (Value.int IntKind.i64 (g141_0 x0_0 x0_1 x0_2 x1))), [Blk.box [T.imm true (1 : Nat) x0_0, T.lit (Value.int IntKind.i64 (x0_1 + g141_2 x1)), T.lit (Value.int IntKind.u64 (g141_3 x0_0 x0_1 x0_2 x1))]]), bytesOk x0_0 && (okTo (1 : Int) x0_1 && (x1 != (0 : Int) || decide (x1 ≤ (1 : Int)))))
  | _, _ => none
theorem t141 (args : List SV) (hp : List Blk) (r : SV × List Blk) (h : q141 args hp = some (r, true)) : R 141 args hp = some r := by
  unfold q141 at h
  split at h
  · rename_i x1 x0_0 x0_1 x0_2; exact R_fn at141 0 (fnT_run Q217_ok (okTrans (e141 x0_0 x0_1 x0_2 x1) (k141 x0_0 x0_1 x0_2 x1) h))
  · simp at h
noncomputable def Q141 : Qt := qcons 141 q141 Q217
theorem Q141_ok : QOk R Q141 := qcons_ok t141 Q217_ok
theorem pick_rng {rows : List Row} (hb : bytesOk rows = true) {p : Int} (h0 : 0 ≤ p) (s : Int) {n : Int} (hn : 2 ≤ n) : 0 ≤ g141_0 rows p s n ∧ g141_0 rows p s n < n := by
  unfold g141_0
  have e1 : decide (n ≤ (1 : Int)) = false := by simp; omega
  rw [e1, cond_false]
  have r1 := nextV_rng hb h0 s
  have r2 := nextV_rng hb (show 0 ≤ p + 1 by omega) (nextS rows p s)
  have hx : 0 ≤ (bif decide (n > (200 : Int)) then IntKind.wrap IntKind.i64 (IntKind.wrap IntKind.i64 (nextV rows p s * (256 : Int)) + nextV rows (p + (1 : Int)) (nextS rows p s)) else nextV rows p s) := by
    cases decide (n > (200 : Int))
    · exact r1.1
    · simp only [cond_true, IntKind.wrap_i64]
      omega
  exact ⟨Int.tmod_nonneg _ hx, Int.tmod_lt_of_pos _ (by omega)⟩
/-! (*spec.l1Cur).among -/
def g133_0 (x0_0 : List Row) (x0_1 : Int) (x0_2 : Int) (x1 : List Row) : Int := intAt x1 (Int.toNat (g141_0 x0_0 x0_1 x0_2 (↑(List.length x1) : Int))) (0 : Nat)
def r133_1 (x0_1 : Int) (x1 : List Row) : Int := x0_1 + g141_2 (↑(List.length x1) : Int)
def g133_1 (x1 : List Row) : Int := g141_2 (↑(List.length x1) : Int)
theorem b133_1 (x1 : List Row) : bd (g133_1 x1) 2 := by
  unfold g133_1
  exact (b141_2 _)
theorem c133_1 (x0_1 : Int) (x1 : List Row) : r133_1 x0_1 x1 = x0_1 + g133_1 x1 := by simp only [r133_1, g133_1, bif_p1 x0_1, bif_p2 x0_1, bif_p3 x0_1, Int.add_assoc, Bool.cond_self]
def g133_2 (x0_0 : List Row) (x0_1 : Int) (x0_2 : Int) (x1 : List Row) : Int := g141_3 x0_0 x0_1 x0_2 (↑(List.length x1) : Int)
theorem k133 (x0_0 : List Row) (x0_1 : Int) (x0_2 : Int) (px1 : Bool) (x1 : List Row) (h : (bytesOk x0_0 && (okTo (2 : Int) x0_1 && listOk x1)) = true) : (bytesOk x0_0 && (okTo (1 : Int) x0_1 && ((↑(List.length x1) : Int) != (0 : Int) || decide ((↑(List.length x1) : Int) ≤ (1 : Int)))) && (inRow [Kd.int IntKind.i64] x1 (g141_0 x0_0 x0_1 x0_2 (↑(List.length x1) : Int)) && true) && true && true) = true := by
  obtain ⟨h0, h⟩ := Bool.and_eq_true_iff.1 h
  obtain ⟨h1, h2⟩ := Bool.and_eq_true_iff.1 h
  have hl : 2 ≤ x1.length := by simp only [listOk, Bool.and_eq_true, decide_eq_true_eq] at h2; exact h2.1
  have hp := (okTo_iff.1 h1).1
  have hr := pick_rng h0 hp x0_2 (n := (x1.length : Int)) (by omega)
  have hi := inRow_list h2 hr.1 hr.2
  have hne : ((x1.length : Int) != 0) = true := by rw [bne_iff_ne]; omega
  have h1' : okTo 1 x0_1 = true := okTo_le h1 (by decide)
  simp only [h0, h1', hi, hne, Bool.and_true, Bool.true_and, Bool.or_true, Bool.true_or]
theorem d133 (x0_0 : List Row) (x0_1 : Int) (x0_2 : Int) (px1 : Bool) (x1 : List Row) : fnT Q141 [(10, [.int .i64]), (11, [.int .i64])] [] 0 F133 [.one (.ptr 0 0 0), .one (.imm px1 1 x1)] [.box [.imm true 1 x0_0, .lit (.int .i64 x0_1), .lit (.int .u64 x0_2)]] = some ((SV.one (T.lit (Value.int IntKind.i64 (g133_0 x0_0 x0_1 x0_2 x1))), [Blk.box [T.imm true (1 : Nat) x0_0, T.lit (Value.int IntKind.i64 (r133_1 x0_1 x1)), T.lit (Value.int IntKind.u64 (g133_2 x0_0 x0_1 x0_2 x1))]]), bytesOk x0_0 && (okTo (1 : Int) x0_1 && ((↑(List.length x1) : Int) != (0 : Int) || decide ((↑(List.length x1) : Int) ≤ (1 : Int)))) && (inRow [Kd.int IntKind.i64] x1 (g141_0 x0_0 x0_1 x0_2 (↑(List.length x1) : Int)) && true) && true && true) := by kernel_rfl
theorem e133 (x0_0 : List Row) (x0_1 : Int) (x0_2 : Int) (px1 : Bool) (x1 : List Row) : fnT Q141 [(10, [.int .i64]), (11, [.int .i64])] [] 0 F133 [.one (.ptr 0 0 0), .one (.imm px1 1 x1)] [.box [.imm true 1 x0_0, .lit (.int .i64 x0_1), .lit (.int .u64 x0_2)]] = some ((SV.one (T.lit (Value.int IntKind.i64 (g133_0 x0_0 x0_1 x0_2 x1))), [Blk.box [T.imm true (1 : Nat) x0_0, T.lit (Value.int IntKind.i64 (x0_1 + g133_1 x1)), T.lit (Value.int IntKind.u64 (g133_2 x0_0 x0_1 x0_2 x1))]]), bytesOk x0_0 && (okTo (1 : Int) x0_1 && ((↑(List.length x1) : Int) != (0 : Int) || decide ((↑(List.length x1) : Int) ≤ (1 : Int)))) && (inRow [Kd.int IntKind.i64] x1 (g141_0 x0_0 x0_1 x0_2 (↑(List.length x1) : Int)) && true) && true && true) := by rw [d133, c133_1]
def q133 : List SV → List Blk → Option ((SV × List Blk) × Bool)
  | [.one (.ptr 0 0 0), .one (.imm px1 1 x1)], [.box [.imm true 1 x0_0, .lit (.int .i64 x0_1), .lit (.int .u64 x0_2)]] => some ((SV.one (T.lit (Value.int IntKind.i64 (g133_0 x0_0 x0_1 x0_2 x1))), [Blk.box [T.imm true (1 : Nat) x0_0, T.lit (Value.int IntKind.i64 (x0_1 + g133_1 x1)), T.lit (Value.int IntKind.u64 (g133_2 x0_0 x0_1 x0_2 x1))]]), bytesOk x0_0 && (okTo (2 : Int) x0_1 && listOk x1))
  | _, _ => none
theorem t133 (args : List SV) (hp : List Blk) (r : SV × List Blk) (h : q133 args hp = some (r, true)) : R 133 args hp = some r := by
  unfold q133 at h
  split at h
  · rename_i px1 x1 x0_0 x0_1 x0_2; exact R_fn at133 0 (fnT_run Q141_ok (okTrans (e133 x0_0 x0_1 x0_2 px1 x1) (k133 x0_0 x0_1 x0_2 px1 x1) h))
  · simp at h
noncomputable def Q133 : Qt := qcons 133 q133 Q141
theorem Q133_ok : QOk R Q133 := qcons_ok t133 Q141_ok
/-! (*spec.l1Cur).one -/
def g167_0 (x0_0 : List Row) (x0_1 : Int) (x0_2 : Int) (x1 : Int) : Bool := g141_0 x0_0 x0_1 x0_2 x1 == (0 : Int)
def r167_1 (x0_1 : Int) (x1 : Int) : Int := x0_1 + g141_2 x1
def g167_1 (x1 : Int) : Int := g141_2 x1
theorem b167_1 (x1 : Int) : bd (g167_1 x1) 2 := by
  unfold g167_1
  exact (b141_2 _)
theorem c167_1 (x0_1 : Int) (x1 : Int) : r167_1 x0_1 x1 = x0_1 + g167_1 x1 := by simp only [r167_1, g167_1, bif_p1 x0_1, bif_p2 x0_1, bif_p3 x0_1, Int.add_assoc, Bool.cond_self]
def g167_2 (x0_0 : List Row) (x0_1 : Int) (x0_2 : Int) (x1 : Int) : Int := g141_3 x0_0 x0_1 x0_2 x1
theorem k167 (x0_0 : List Row) (x0_1 : Int) (x0_2 : Int) (x1 : Int) (h : (bytesOk x0_0 && (okTo (1 : Int) x0_1 && (x1 != (0 : Int) || decide (x1 ≤ (1 : Int))))) = true) : (bytesOk x0_0 && (okTo (1 : Int) x0_1 && (x1 != (0 : Int) || decide (x1 ≤ (1 : Int)))) && true && true && true) = true := by
  obtain ⟨h0, h⟩ := Bool.and_eq_true_iff.1 h
  obtain ⟨h1, h⟩ := Bool.and_eq_true_iff.1 h
  have h2 := h
  have p0 : (okTo (1 : Int) x0_1) = true := (okTo_le (v := 1) h1 (by decide))
  simp only [h0, h2, p0, Bool.and_true, Bool.true_and, Bool.or_true, Bool.true_or, Bool.or_false, Bool.false_or, Bool.and_self, Bool.cond_self, Bool.not_true, Bool.not_false, Bool.false_and, Bool.and_false, u64_dec, Nat.zero_add, Nat.le_refl, decide_true, eq_self, List.drop_zero, List.take_length]
theorem d167 (x0_0 : List Row) (x0_1 : Int) (x0_2 : Int) (x1 : Int) : fnT Q133 [] [] 0 F167 [.one (.ptr 0 0 0), .one (.lit (.int .i64 x1))] [.box [.imm true 1 x0_0, .lit (.int .i64 x0_1), .lit (.int .u64 x0_2)]] = some ((SV.one (T.lit (Value.bool (g167_0 x0_0 x0_1 x0_2 x1))), [Blk.box [T.imm true (1 : Nat) x0_0, T.lit (Value.int IntKind.i64 (r167_1 x0_1 x1)), T.lit (Value.int IntKind.u64 (g167_2 x0_0 x0_1 x0_2 x1))]]), bytesOk x0_0 && (okTo (1 : Int) x0_1 && (x1 != (0 : Int) || decide (x1 ≤ (1 : Int)))) && true && true && true) := by kernel_rfl
theorem e167 (x0_0 : List Row) (x0_1 : Int) (x0_2 : Int) (x1 : Int) : fnT Q133 [] [] 0 F167 [.one (.ptr 0 0 0), .one (.lit (.int .i64 x1))] [.box [.imm true 1 x0_0, .lit (.int .i64 x0_1), .lit (.int .u64 x0_2)]] = some ((SV.one (T.lit (Value.bool (g167_0 x0_0 x0_1 x0_2 x1))), [Blk.box [T.imm true (1 : Nat) x0_0, T.lit (Value.int IntKind.i64 (x0_1 + g167_1 x1)), T.lit (Value.int IntKind.u64 (g167_2 x0_0 x0_1 x0_2 x1))]]), bytesOk x0_0 && (okTo (1 : Int) x0_1 && (x1 != (0 : Int) || decide (x1 ≤ (1 : Int)))) && true && true && true) := by rw [d167, c167_1]
def q167 : List SV → List Blk → Option ((SV × List Blk) × Bool)
  | [.one (.ptr 0 0 0), .one (.lit (.int .i64 x1))], [.box [.imm true 1 x0_0, .lit (.int .i64 x0_1), .lit (.int .u64 x0_2)]] => some ((SV.one (T.lit (Value.bool (g167_0 x0_0 x0_1 x0_2 x1))), [Blk.box [T.imm true (1 : Nat) x0_0, T.lit (Value.int IntKind.i64 (x0_1 + g167_1 x1)), T.lit (Value.int IntKind.u64 (g167_2 x0_0 x0_1 x0_2 x1))]]), bytesOk x0_0 && (okTo (1 : Int) x0_1 && (x1 != (0 : Int) || decide (x1 ≤ (1 : Int)))))
  | _, _ => none
theorem t167 (args : List SV) (hp : List Blk) (r : SV × List Blk) (h : q167 args hp = some (r, true)) : R 167 args hp = some r := by
  unfold q167 at h
  split at h
  · rename_i x1 x0_0 x0_1 x0_2; exact R_fn at167 0 (fnT_run Q133_ok (okTrans (e167 x0_0 x0_1 x0_2 x1) (k167 x0_0 x0_1 x0_2 x1) h))
  · simp at h
noncomputable def Q167 : Qt := qcons 167 q167 Q133
theorem Q167_ok : QOk R Q167 := qcons_ok t167 Q133_ok
/-! (*spec.l1Cur).value -/
def g166_0 (x0_0 : List Row) (x0_1 : Int) (x0_2 : Int) : Int := bif g167_0 x0_0 x0_1 x0_2 (2 : Int) then g133_0 x0_0 (x0_1 + (1 : Int)) (g167_2 x0_0 x0_1 x0_2 (2 : Int)) (ri [(0 : Int), (1 : Int), (127 : Int), (128 : Int), (255 : Int), (256 : Int), (32767 : Int), (32768 : Int), (65535 : Int), (65536 : Int), (-1 : Int)]) else IntKind.wrap IntKind.i64 (IntKind.wrap IntKind.i64 (IntKind.wrap IntKind.i64 (g141_0 x0_0 (x0_1 + (1 : Int)) (g167_2 x0_0 x0_1 x0_2 (2 : Int)) (256 : Int) * g141_0 x0_0 (x0_1 + (1 : Int) + (2 : Int)) (g141_3 x0_0 (x0_1 + (1 : Int)) (g167_2 x0_0 x0_1 x0_2 (2 : Int)) (256 : Int)) (2 : Int)) * (256 : Int)) + g141_0 x0_0 (x0_1 + (1 : Int) + (2 : Int) + (1 : Int)) (g141_3 x0_0 (x0_1 + (1 : Int) + (2 : Int)) (g141_3 x0_0 (x0_1 + (1 : Int)) (g167_2 x0_0 x0_1 x0_2 (2 : Int)) (256 : Int)) (2 : Int)) (256 : Int))
def r166_1 (x0_0 : List Row) (x0_1 : Int) (x0_2 : Int) : List (List T) := bif g167_0 x0_0 x0_1 x0_2 (2 : Int) then x0_0 else x0_0
theorem c166_1 (x0_0 : List Row) (x0_1 : Int) (x0_2 : Int) : r166_1 x0_0 x0_1 x0_2 = x0_0 := by simp only [r166_1, Bool.cond_self, bif_tf, bif_ft, Bool.not_not, List.drop_zero, List.take_length]
def r166_2 (x0_0 : List Row) (x0_1 : Int) (x0_2 : Int) : Int := bif g167_0 x0_0 x0_1 x0_2 (2 : Int) then x0_1 + (1 : Int) + (1 : Int) else x0_1 + (1 : Int) + (2 : Int) + (1 : Int) + (2 : Int)
def g166_2 (x0_0 : List Row) (x0_1 : Int) (x0_2 : Int) : Int := bif g167_0 x0_0 x0_1 x0_2 (2 : Int) then (1 : Int) + (1 : Int) else (1 : Int) + (2 : Int) + (1 : Int) + (2 : Int)
theorem b166_2 (x0_0 : List Row) (x0_1 : Int) (x0_2 : Int) : bd (g166_2 x0_0 x0_1 x0_2) 6 := by
  unfold g166_2
  exact (bd_cond (u := 2) (v := 6) (w := 6) (bd_add (u := 1) (v := 1) (w := 2) ⟨by decide, by decide⟩ ⟨by decide, by decide⟩ (by decide)) (bd_add (u := 4) (v := 2) (w := 6) (bd_add (u := 3) (v := 1) (w := 4) (bd_add (u := 1) (v := 2) (w := 3) ⟨by decide, by decide⟩ ⟨by decide, by decide⟩ (by decide)) ⟨by decide, by decide⟩ (by decide)) ⟨by decide, by decide⟩ (by decide)) (by decide) (by decide))
theorem c166_2 (x0_0 : List Row) (x0_1 : Int) (x0_2 : Int) : r166_2 x0_0 x0_1 x0_2 = x0_1 + g166_2 x0_0 x0_1 x0_2 := by simp only [r166_2, g166_2, bif_p1 x0_1, bif_p2 x0_1, bif_p3 x0_1, Int.add_assoc, Bool.cond_self]
def g166_3 (x0_0 : List Row) (x0_1 : Int) (x0_2 : Int) : Int := bif g167_0 x0_0 x0_1 x0_2 (2 : Int) then g133_2 x0_0 (x0_1 + (1 : Int)) (g167_2 x0_0 x0_1 x0_2 (2 : Int)) (ri [(0 : Int), (1 : Int), (127 : Int), (128 : Int), (255 : Int), (256 : Int), (32767 : Int), (32768 : Int), (65535 : Int), (65536 : Int), (-1 : Int)]) else g141_3 x0_0 (x0_1 + (1 : Int) + (2 : Int) + (1 : Int)) (g141_3 x0_0 (x0_1 + (1 : Int) + (2 : Int)) (g141_3 x0_0 (x0_1 + (1 : Int)) (g167_2 x0_0 x0_1 x0_2 (2 : Int)) (256 : Int)) (2 : Int)) (256 : Int)
theorem k166 (x0_0 : List Row) (x0_1 : Int) (x0_2 : Int) (h : (bytesOk x0_0 && okTo (5 : Int) x0_1) = true) : (bytesOk x0_0 && (okTo (1 : Int) x0_1 && true) && true && ((bytesOk x0_0 && (okTo (2 : Int) (x0_1 + (1 : Int)) && true) && true && true || !g167_0 x0_0 x0_1 x0_2 (2 : Int)) && true) && (bytesOk x0_0 && (okTo (1 : Int) (x0_1 + (1 : Int)) && true) && (bytesOk x0_0 && (okTo (1 : Int) (x0_1 + (1 : Int) + (2 : Int)) && true) && (bytesOk x0_0 && (okTo (1 : Int) (x0_1 + (1 : Int) + (2 : Int) + (1 : Int)) && true) && true)) && true || g167_0 x0_0 x0_1 x0_2 (2 : Int)) && true) = true := by
  obtain ⟨h0, h⟩ := Bool.and_eq_true_iff.1 h
  have h1 := h
  have p0 : (okTo (1 : Int) x0_1) = true := (okTo_le (v := 1) h1 (by decide))
  have p1 : (okTo (2 : Int) (x0_1 + (1 : Int))) = true := (okTo_add (u := 1) (v := 2) (w := 3) (okTo_le (v := 3) h1 (by decide)) ⟨by decide, by decide⟩ (by decide))
  have p2 : (okTo (1 : Int) (x0_1 + (1 : Int))) = true := (okTo_add (u := 1) (v := 1) (w := 2) (okTo_le (v := 2) h1 (by decide)) ⟨by decide, by decide⟩ (by decide))
  have p3 : (okTo (1 : Int) (x0_1 + (1 : Int) + (2 : Int))) = true := (okTo_add (u := 2) (v := 1) (w := 3) (okTo_add (u := 1) (v := 3) (w := 4) (okTo_le (v := 4) h1 (by decide)) ⟨by decide, by decide⟩ (by decide)) ⟨by decide, by decide⟩ (by decide))
  have p4 : (okTo (1 : Int) (x0_1 + (1 : Int) + (2 : Int) + (1 : Int))) = true := (okTo_add (u := 1) (v := 1) (w := 2) (okTo_add (u := 2) (v := 2) (w := 4) (okTo_add (u := 1) (v := 4) (w := 5) (okTo_le (v := 5) h1 (by decide)) ⟨by decide, by decide⟩ (by decide)) ⟨by decide, by decide⟩ (by decide)) ⟨by decide, by decide⟩ (by decide))
  simp only [h0, p0, p1, p2, p3, p4, Bool.and_true, Bool.true_and, Bool.or_true, Bool.true_or, Bool.or_false, Bool.false_or, Bool.and_self, Bool.cond_self, Bool.not_true, Bool.not_false, Bool.false_and, Bool.and_false, u64_dec, Nat.zero_add, Nat.le_refl, decide_true, eq_self, List.drop_zero, List.take_length]
theorem d166 (x0_0 : List Row) (x0_1 : Int) (x0_2 : Int) : fnT Q167 [] [] 0 F166 [.one (.ptr 0 0 0)] [.box [.imm true 1 x0_0, .lit (.int .i64 x0_1), .lit (.int .u64 x0_2)]] = some ((SV.one (T.lit (Value.int IntKind.i64 (g166_0 x0_0 x0_1 x0_2))), [Blk.box [T.imm true (1 : Nat) (r166_1 x0_0 x0_1 x0_2), T.lit (Value.int IntKind.i64 (r166_2 x0_0 x0_1 x0_2)), T.lit (Value.int IntKind.u64 (g166_3 x0_0 x0_1 x0_2))]]), bytesOk x0_0 && (okTo (1 : Int) x0_1 && true) && true && ((bytesOk x0_0 && (okTo (2 : Int) (x0_1 + (1 : Int)) && true) && true && true || !g167_0 x0_0 x0_1 x0_2 (2 : Int)) && true) && (bytesOk x0_0 && (okTo (1 : Int) (x0_1 + (1 : Int)) && true) && (bytesOk x0_0 && (okTo (1 : Int) (x0_1 + (1 : Int) + (2 : Int)) && true) && (bytesOk x0_0 && (okTo (1 : Int) (x0_1 + (1 : Int) + (2 : Int) + (1 : Int)) && true) && true)) && true || g167_0 x0_0 x0_1 x0_2 (2 : Int)) && true) := by kernel_rfl
theorem e166 (x0_0 : List Row) (x0_1 : Int) (x0_2 : Int) : fnT Q167 [] [] 0 F166 [.one (.ptr 0 0 0)] [.box [.imm true 1 x0_0, .lit (.int .i64 x0_1), .lit (.int .u64 x0_2)]] = some ((SV.one (T.lit (Value.int IntKind.i64 (g166_0 x0_0 x0_1 x0_2))), [Blk.box [T.imm true (1 : Nat) x0_0, T.lit (Value.int IntKind.i64 (x0_1 + g166_2 x0_0 x0_1 x0_2)), T.lit (Value.int IntKind.u64 (g166_3 x0_0 x0_1 x0_2))]]), bytesOk x0_0 && (okTo (1 : Int) x0_1 && true) && true && ((bytesOk x0_0 && (okTo (2 : Int) (x0_1 + (1 : Int)) && true) && true && true || !g167_0 x0_0 x0_1 x0_2 (2 : Int)) && true) && (bytesOk x0_0 && (okTo (1 : Int) (x0_1 + (1 : Int)) && true) && (bytesOk x0_0 && (okTo (1 : Int) (x0_1 + (1 : Int) + (2 : Int)) && true) && (bytesOk x0_0 && (okTo (1 : Int) (x0_1 + (1 : Int) + (2 : Int) + (1 : Int)) && true) && true)) && true || g167_0 x0_0 x0_1 x0_2 (2 : Int)) && true) := by rw [d166, c166_1, c166_2]
def q166 : List SV → List Blk → Option ((SV × List Blk) × Bool)
  | [.one (.ptr 0 0 0)], [.box [.imm true 1 x0_0, .lit (.int .i64 x0_1), .lit (.int .u64 x0_2)]] => some ((SV.one (T.lit (Value.int IntKind.i64 (g166_0 x0_0 x0_1 x0_2))), [Blk.box [T.imm true (1 : Nat) x0_0, T.lit (Value.int IntKind.i64 (x0_1 + g166_2 x0_0 x0_1 x0_2)), T.lit (Value.int IntKind.u64 (g166_3 x0_0 x0_1 x0_2))]]), bytesOk x0_0 && okTo (5 : Int) x0_1)
  | _, _ => none
theorem t166 (args : List SV) (hp : List Blk) (r : SV × List Blk) (h : q166 args hp = some (r, true)) : R 166 args hp = some r := by
  unfold q166 at h
  split at h
  · rename_i x0_0 x0_1 x0_2; exact R_fn at166 0 (fnT_run Q167_ok (okTrans (e166 x0_0 x0_1 x0_2) (k166 x0_0 x0_1 x0_2) h))
  · simp at h
noncomputable def Q166 : Qt := qcons 166 q166 Q167
theorem Q166_ok : QOk R Q166 := qcons_ok t166 Q167_ok
/-! spec.DrawMulWords -/
def g159_0 (x0 : List Row) : Int := g166_0 x0 (0 : Int) (0 : Int)
def g159_1 (x0 : List Row) : Int := g166_0 x0 ((0 : Int) + g166_2 x0 (0 : Int) (0 : Int)) (g166_3 x0 (0 : Int) (0 : Int))
theorem k159 (x0 : List Row) (h : (bytesOk x0) = true) : (bytesOk x0 && true && (bytesOk x0 && okTo (5 : Int) ((0 : Int) + g166_2 x0 (0 : Int) (0 : Int)) && true) && true && true) = true := by
  have h0 := h
  have p0 : (okTo (5 : Int) ((0 : Int) + g166_2 x0 (0 : Int) (0 : Int))) = true := (okTo_bd (u := 6) (bd_add (u := 0) (v := 6) (w := 6) ⟨by decide, by decide⟩ (b166_2 _ _ _) (by decide)) (by decide))
  simp only [h0, p0, Bool.and_true, Bool.true_and, Bool.or_true, Bool.true_or, Bool.or_false, Bool.false_or, Bool.and_self, Bool.cond_self, Bool.not_true, Bool.not_false, Bool.false_and, Bool.and_false, u64_dec, Nat.zero_add, Nat.le_refl, decide_true, eq_self, List.drop_zero, List.take_length]
theorem e159 (x0 : List Row) : fnT Q166 [] [] 0 F159 [.one (.imm true 1 x0)] [] = some ((SV.tup [SV.one (T.lit (Value.int IntKind.i64 (g159_0 x0))), SV.one (T.lit (Value.int IntKind.i64 (g159_1 x0)))], []), bytesOk x0 && true && (bytesOk x0 && okTo (5 : Int) ((0 : Int) + g166_2 x0 (0 : Int) (0 : Int)) && true) && true && true) := by kernel_rfl
def q159 : List SV → List Blk → Option ((SV × List Blk) × Bool)
  | [.one (.imm true 1 x0)], [] => some ((SV.tup [SV.one (T.lit (Value.int IntKind.i64 (g159_0 x0))), SV.one (T.lit (Value.int IntKind.i64 (g159_1 x0)))], []), bytesOk x0)
  | _, _ => none
theorem t159 (args : List SV) (hp : List Blk) (r : SV × List Blk) (h : q159 args hp = some (r, true)) : R 159 args hp = some r := by
  unfold q159 at h
  split at h
  · rename_i x0; exact R_fn at159 0 (fnT_run Q166_ok (okTrans (e159 x0) (k159 x0) h))
  · simp at h
noncomputable def Q159 : Qt := qcons 159 q159 Q166
theorem Q159_ok : QOk R Q159 := qcons_ok t159 Q166_ok
/-! spec.DrawMulBooth -/
theorem k37 (x0 : List Row) (h : (bytesOk x0) = true) : (bytesOk x0 && true && true && true) = true := by
  have h0 := h
  simp only [h0, Bool.and_true, Bool.true_and, Bool.or_true, Bool.true_or, Bool.or_false, Bool.false_or, Bool.and_self, Bool.cond_self, Bool.not_true, Bool.not_false, Bool.false_and, Bool.and_false, u64_dec, Nat.zero_add, Nat.le_refl, decide_true, eq_self, List.drop_zero, List.take_length]
theorem e37 (x0 : List Row) : fnT Q159 [] [] 0 F37 [.one (.imm true 1 x0)] [] = some ((SV.tup [SV.one (T.lit (Value.int IntKind.i64 (g159_0 x0))), SV.one (T.lit (Value.int IntKind.i64 (g159_1 x0)))], []), bytesOk x0 && true && true && true) := by kernel_rfl
def q37 : List SV → List Blk → Option ((SV × List Blk) × Bool)
  | [.one (.imm true 1 x0)], [] => some ((SV.tup [SV.one (T.lit (Value.int IntKind.i64 (g159_0 x0))), SV.one (T.lit (Value.int IntKind.i64 (g159_1 x0)))], []), bytesOk x0)
  | _, _ => none
theorem t37 (args : List SV) (hp : List Blk) (r : SV × List Blk) (h : q37 args hp = some (r, true)) : R 37 args hp = some r := by
  unfold q37 at h
  split at h
  · rename_i x0; exact R_fn at37 0 (fnT_run Q159_ok (okTrans (e37 x0) (k37 x0) h))
  · simp at h
noncomputable def Q37 : Qt := qcons 37 q37 Q159
theorem Q37_ok : QOk R Q37 := qcons_ok t37 Q159_ok
/-! impl.isWord -/
def g160_0 (x0 : Int) : Bool := g142_0 x0 (0 : Int) (65535 : Int)
theorem e160 (x0 : Int) : fnT Q37 [] [] 0 F160 [.one (.lit (.int .i64 x0))] [] = some ((SV.one (T.lit (Value.bool (g160_0 x0))), []), true) := by kernel_rfl
def q160 : List SV → List Blk → Option ((SV × List Blk) × Bool)
  | [.one (.lit (.int .i64 x0))], [] => some ((SV.one (T.lit (Value.bool (g160_0 x0))), []), true)
  | _, _ => none
theorem t160 (args : List SV) (hp : List Blk) (r : SV × List Blk) (h : q160 args hp = some (r, true)) : R 160 args hp = some r := by
  unfold q160 at h
  split at h
  · rename_i x0; exact R_fn at160 0 (fnT_run Q37_ok ((e160 x0).trans h))
  · simp at h
noncomputable def Q160 : Qt := qcons 160 q160 Q37
theorem Q160_ok : QOk R Q160 := qcons_ok t160 Q37_ok
/-! impl.BoothDigits -/
def s45_0 (v0 : List Row) (v1 : Int) (v2 : Int) (v3 : Int) : St := ⟨[(0, .one (.lit (.int .i64 v1))), (4, .one (.sl 0 0 (List.length v0))), (5, .one (.lit (.int .i64 v2))), (12, .one (.lit (.int .i64 v3)))], [.lst 1 v0]⟩
def x45_0 (v0 : List Row) (v1 : Int) (v2 : Int) (v3 : Int) : List (Ex × Bool × Tr) := [(Ex.brk (0 : Nat), !decide (v3 < (16 : Int)), Tr.leaf { sl := [((0 : Nat), SV.one (T.lit (Value.int IntKind.i64 v1))), ((4 : Nat), SV.one (T.sl (0 : Nat) (0 : Nat) (List.length v0))), ((5 : Nat), SV.one (T.lit (Value.int IntKind.i64 v2))), ((12 : Nat), SV.one (T.lit (Value.int IntKind.i64 v3))), ((13 : Nat), SV.one (T.lit (Value.bool (decide (v3 < (16 : Int))))))], hp := [Blk.lst (1 : Nat) v0] })]
def u45_0 (v0 : List Row) (v1 : Int) (v2 : Int) (v3 : Int) : St := { sl := [((0 : Nat), SV.one (T.lit (Value.int IntKind.i64 v1))), ((4 : Nat), SV.one (T.sl (2 : Nat) (0 : Nat) (List.length (List.take (List.length v0) (List.drop (0 : Nat) v0) ++ ri [IntKind.wrap IntKind.i64 (v2 - IntKind.wrap IntKind.i64 (↑(BitVec.toNat (BitVec.ofInt (64 : Nat) (Int.fdiv v1 ((2 : Int) ^ min (Int.toNat v3) (64 : Nat))) &&& BitVec.ofInt (64 : Nat) (1 : Int))) : Int))])))), ((5 : Nat), SV.one (T.lit (Value.int IntKind.i64 (IntKind.wrap IntKind.i64 (↑(BitVec.toNat (BitVec.ofInt (64 : Nat) (Int.fdiv v1 ((2 : Int) ^ min (Int.toNat v3) (64 : Nat))) &&& BitVec.ofInt (64 : Nat) (1 : Int))) : Int))))), ((12 : Nat), SV.one (T.lit (Value.int IntKind.i64 (IntKind.wrap IntKind.i64 (v3 + (1 : Int))))))], hp := [Blk.dead, Blk.lst (1 : Nat) [[T.lit (Value.int IntKind.i64 (IntKind.wrap IntKind.i64 (v2 - IntKind.wrap IntKind.i64 (↑(BitVec.toNat (BitVec.ofInt (64 : Nat) (Int.fdiv v1 ((2 : Int) ^ min (Int.toNat v3) (64 : Nat))) &&& BitVec.ofInt (64 : Nat) (1 : Int))) : Int))))]], Blk.lst (1 : Nat) (List.take (List.length v0) (List.drop (0 : Nat) v0) ++ ri [IntKind.wrap IntKind.i64 (v2 - IntKind.wrap IntKind.i64 (↑(BitVec.toNat (BitVec.ofInt (64 : Nat) (Int.fdiv v1 ((2 : Int) ^ min (Int.toNat v3) (64 : Nat))) &&& BitVec.ofInt (64 : Nat) (1 : Int))) : Int))])] }
def y45_0 (v0 : List Row) (v1 : Int) (v2 : Int) (v3 : Int) : Bool := decide ((0 : Int) ≤ v3) && (decide ((0 : Nat) + List.length v0 = List.length v0) && (decide ((List.length v0 + (1 : Nat)) * (8 : Nat) ≤ (140737488355328 : Nat)) && decide (List.length v0 + (1 : Nat) ≤ (140737488355328 : Nat)))) || !decide (v3 < (16 : Int))
theorem hy45_0 (v0 : List Row) (v1 : Int) (v2 : Int) (v3 : Int) : (decide ((0 : Int) ≤ v3) && true && (decide ((0 : Nat) + List.length v0 ≤ List.length v0) && (decide ((0 : Nat) + (1 : Nat) ≤ (1 : Nat)) && (decide ((0 : Nat) + List.length v0 = List.length v0) && (decide ((List.length (List.take (List.length v0) (List.drop (0 : Nat) v0)) + (1 : Nat)) * (8 : Nat) ≤ (140737488355328 : Nat)) && decide (List.length (List.take (List.length v0) (List.drop (0 : Nat) v0)) + (1 : Nat) ≤ (140737488355328 : Nat))))) && true && true) && true || !decide (v3 < (16 : Int))) = y45_0 v0 v1 v2 v3 := by simp only [y45_0, List.drop_zero, List.take_length, Nat.zero_add, Nat.le_refl, Int.le_refl, decide_true, eq_self, ri_len, List.length_cons, List.length_nil, List.length_append, Nat.reduceAdd, u64_dec, Bool.and_self, Bool.true_and, Bool.and_true, Bool.or_true, Bool.true_or, Bool.or_false, Bool.false_or, Bool.cond_self, Bool.not_true, Bool.not_false]
def z45_0 (v0 : List Row) (v1 : Int) (v2 : Int) (v3 : Int) : Bool := (!decide (v3 < (16 : Int)) || false)
def L45_0 : Nat → List Row → Int → Int → Int → Option (List Row × Int × Int × Int)
  | 0, _, _, _, _ => none
  | k + 1, v0, v1, v2, v3 => bif y45_0 v0 v1 v2 v3 then bif z45_0 v0 v1 v2 v3 then some (v0, v1, v2, v3) else L45_0 k (v0 ++ ri [IntKind.wrap IntKind.i64 (v2 - IntKind.wrap IntKind.i64 (↑(BitVec.toNat (BitVec.ofInt (64 : Nat) (Int.fdiv v1 ((2 : Int) ^ min (Int.toNat v3) (64 : Nat))) &&& BitVec.ofInt (64 : Nat) (1 : Int))) : Int))]) (v1) (IntKind.wrap IntKind.i64 (↑(BitVec.toNat (BitVec.ofInt (64 : Nat) (Int.fdiv v1 ((2 : Int) ^ min (Int.toNat v3) (64 : Nat))) &&& BitVec.ofInt (64 : Nat) (1 : Int))) : Int)) (IntKind.wrap IntKind.i64 (v3 + (1 : Int))) else none
theorem hb45_0 (n : Nat) (v0 : List Row) (v1 : Int) (v2 : Int) (v3 : Int) : Go.Zq.evt Q160 [] [] lqN 0 n F45b0 (s45_0 v0 v1 v2 v3) = some (⟨x45_0 v0 v1 v2 v3, some (.leaf (u45_0 v0 v1 v2 v3))⟩, y45_0 v0 v1 v2 v3) := by
  rw [← hy45_0 v0 v1 v2 v3]
  kernel_rfl
theorem hc45_0 (v0 : List Row) (v1 : Int) (v2 : Int) (v3 : Int) : canonS 0 [0, 4, 5, 12] (u45_0 v0 v1 v2 v3) = some (s45_0 (v0 ++ ri [IntKind.wrap IntKind.i64 (v2 - IntKind.wrap IntKind.i64 (↑(BitVec.toNat (BitVec.ofInt (64 : Nat) (Int.fdiv v1 ((2 : Int) ^ min (Int.toNat v3) (64 : Nat))) &&& BitVec.ofInt (64 : Nat) (1 : Int))) : Int))]) (v1) (IntKind.wrap IntKind.i64 (↑(BitVec.toNat (BitVec.ofInt (64 : Nat) (Int.fdiv v1 ((2 : Int) ^ min (Int.toNat v3) (64 : Nat))) &&& BitVec.ofInt (64 : Nat) (1 : Int))) : Int)) (IntKind.wrap IntKind.i64 (v3 + (1 : Int))), true) := by
  have e : canonS 0 [0, 4, 5, 12] (u45_0 v0 v1 v2 v3) = some ({ sl := [((0 : Nat), SV.one (T.lit (Value.int IntKind.i64 v1))), ((4 : Nat), SV.one (T.sl (0 : Nat) (0 : Nat) (List.length (List.take (List.length v0) (List.drop (0 : Nat) v0) ++ ri [IntKind.wrap IntKind.i64 (v2 - IntKind.wrap IntKind.i64 (↑(BitVec.toNat (BitVec.ofInt (64 : Nat) (Int.fdiv v1 ((2 : Int) ^ min (Int.toNat v3) (64 : Nat))) &&& BitVec.ofInt (64 : Nat) (1 : Int))) : Int))])))), ((5 : Nat), SV.one (T.lit (Value.int IntKind.i64 (IntKind.wrap IntKind.i64 (↑(BitVec.toNat (BitVec.ofInt (64 : Nat) (Int.fdiv v1 ((2 : Int) ^ min (Int.toNat v3) (64 : Nat))) &&& BitVec.ofInt (64 : Nat) (1 : Int))) : Int))))), ((12 : Nat), SV.one (T.lit (Value.int IntKind.i64 (IntKind.wrap IntKind.i64 (v3 + (1 : Int))))))], hp := [Blk.lst (1 : Nat) (List.take (List.length (List.take (List.length v0) (List.drop (0 : Nat) v0) ++ ri [IntKind.wrap IntKind.i64 (v2 - IntKind.wrap IntKind.i64 (↑(BitVec.toNat (BitVec.ofInt (64 : Nat) (Int.fdiv v1 ((2 : Int) ^ min (Int.toNat v3) (64 : Nat))) &&& BitVec.ofInt (64 : Nat) (1 : Int))) : Int))])) (List.drop (0 : Nat) (List.take (List.length v0) (List.drop (0 : Nat) v0) ++ ri [IntKind.wrap IntKind.i64 (v2 - IntKind.wrap IntKind.i64 (↑(BitVec.toNat (BitVec.ofInt (64 : Nat) (Int.fdiv v1 ((2 : Int) ^ min (Int.toNat v3) (64 : Nat))) &&& BitVec.ofInt (64 : Nat) (1 : Int))) : Int))])))] }, decide ((0 : Nat) + List.length (List.take (List.length v0) (List.drop (0 : Nat) v0) ++ ri [IntKind.wrap IntKind.i64 (v2 - IntKind.wrap IntKind.i64 (↑(BitVec.toNat (BitVec.ofInt (64 : Nat) (Int.fdiv v1 ((2 : Int) ^ min (Int.toNat v3) (64 : Nat))) &&& BitVec.ofInt (64 : Nat) (1 : Int))) : Int))]) ≤ List.length (List.take (List.length v0) (List.drop (0 : Nat) v0) ++ ri [IntKind.wrap IntKind.i64 (v2 - IntKind.wrap IntKind.i64 (↑(BitVec.toNat (BitVec.ofInt (64 : Nat) (Int.fdiv v1 ((2 : Int) ^ min (Int.toNat v3) (64 : Nat))) &&& BitVec.ofInt (64 : Nat) (1 : Int))) : Int))])) && true && (decide (List.length (List.take (List.length v0) (List.drop (0 : Nat) v0) ++ ri [IntKind.wrap IntKind.i64 (v2 - IntKind.wrap IntKind.i64 (↑(BitVec.toNat (BitVec.ofInt (64 : Nat) (Int.fdiv v1 ((2 : Int) ^ min (Int.toNat v3) (64 : Nat))) &&& BitVec.ofInt (64 : Nat) (1 : Int))) : Int))]) = List.length (List.take (List.length v0) (List.drop (0 : Nat) v0) ++ ri [IntKind.wrap IntKind.i64 (v2 - IntKind.wrap IntKind.i64 (↑(BitVec.toNat (BitVec.ofInt (64 : Nat) (Int.fdiv v1 ((2 : Int) ^ min (Int.toNat v3) (64 : Nat))) &&& BitVec.ofInt (64 : Nat) (1 : Int))) : Int))])) && true)) := by kernel_rfl
  rw [e]
  simp only [s45_0, List.drop_zero, List.take_length, Nat.zero_add, Nat.le_refl, decide_true, eq_self, Bool.and_self, Bool.true_and, Bool.and_true]
def w45_0_0 (n : Nat) (v0 : List Row) (v1 : Int) (v2 : Int) (v3 : Int) : List Row := ((L45_0 n v0 v1 v2 v3).getD (default, default, default, default)).1
def w45_0_1 (n : Nat) (v0 : List Row) (v1 : Int) (v2 : Int) (v3 : Int) : Int := ((L45_0 n v0 v1 v2 v3).getD (default, default, default, default)).2.1
def w45_0_2 (n : Nat) (v0 : List Row) (v1 : Int) (v2 : Int) (v3 : Int) : Int := ((L45_0 n v0 v1 v2 v3).getD (default, default, default, default)).2.2.1
def w45_0_3 (n : Nat) (v0 : List Row) (v1 : Int) (v2 : Int) (v3 : Int) : Int := ((L45_0 n v0 v1 v2 v3).getD (default, default, default, default)).2.2.2
def lq45_0 (n : Nat) (σ : St) : Option (O × Bool) :=
  match canonS 0 [0, 4, 5, 12] σ with
  | some (⟨[(0, .one (.lit (.int .i64 v1))), (4, .one (.sl 0 0 l0)), (5, .one (.lit (.int .i64 v2))), (12, .one (.lit (.int .i64 v3)))], [.lst 1 v0]⟩, c) => some (⟨x45_0 (w45_0_0 n v0 v1 v2 v3) (w45_0_1 n v0 v1 v2 v3) (w45_0_2 n v0 v1 v2 v3) (w45_0_3 n v0 v1 v2 v3), none⟩, (c && decide (l0 = List.length v0)) && (L45_0 n v0 v1 v2 v3).isSome)
  | _ => none
theorem lt45_0 (n : Nat) : Tells (lq45_0 n) (evc R 0 n (.loop [0, 4, 5, 12] F45b0)) := fun σ σr o h hl => by
  unfold lq45_0 at h
  split at h
  · rename_i v1 l0 v2 v3 v0 c hs
    have hk : (c && decide (l0 = List.length v0)) && (L45_0 n v0 v1 v2 v3).isSome = true := by
      have := congrArg (Option.map (·.2)) h
      simpa using this
    obtain ⟨ho, -⟩ := and_t hk
    obtain ⟨ho, e0⟩ := and_t ho
    have e0 := of_decide_eq_true e0
    subst e0
    simp only [decide_true, Bool.and_true] at h
    exact lq_tells (V := List Row × Int × Int × Int) (f := Go.Zq.evt Q160 [] [] lqN 0 n F45b0) (st := fun v => s45_0 v.1 v.2.1 v.2.2.1 v.2.2.2) (ν := fun v => u45_0 v.1 v.2.1 v.2.2.1 v.2.2.2) (ob := (fun v => ⟨x45_0 v.1 v.2.1 v.2.2.1 v.2.2.2, some (.leaf (u45_0 v.1 v.2.1 v.2.2.1 v.2.2.2))⟩)) (okb := fun v => y45_0 v.1 v.2.1 v.2.2.1 v.2.2.2) (next := fun v => (fun v0 v1 v2 v3 => (v0 ++ ri [IntKind.wrap IntKind.i64 (v2 - IntKind.wrap IntKind.i64 (↑(BitVec.toNat (BitVec.ofInt (64 : Nat) (Int.fdiv v1 ((2 : Int) ^ min (Int.toNat v3) (64 : Nat))) &&& BitVec.ofInt (64 : Nat) (1 : Int))) : Int))], v1, IntKind.wrap IntKind.i64 (↑(BitVec.toNat (BitVec.ofInt (64 : Nat) (Int.fdiv v1 ((2 : Int) ^ min (Int.toNat v3) (64 : Nat))) &&& BitVec.ofInt (64 : Nat) (1 : Int))) : Int), IntKind.wrap IntKind.i64 (v3 + (1 : Int)))) v.1 v.2.1 v.2.2.1 v.2.2.2)
      (evt_tells Q160_ok (by simp only [F45, F45b0, Loops, and_self, and_true])) (fun v => hb45_0 n v.1 v.2.1 v.2.2.1 v.2.2.2) (fun _ => rfl) (fun v _ _ => hc45_0 v.1 v.2.1 v.2.2.1 v.2.2.2) (L := fun k v => L45_0 k v.1 v.2.1 v.2.2.1 v.2.2.2) (fun _ => rfl) (fun _ _ => rfl) (v := (v0, v1, v2, v3)) (d := (default, default, default, default)) hs h hl
  · simp at h
def lq45x0 (n : Nat) : Lq := fun live σ => if live = [0, 4, 5, 12] then lq45_0 n σ else none
def r45_0 (x0 : Int) : Bool := bif !g160_0 x0 then false else true
theorem c45_0 (x0 : Int) : r45_0 x0 = g160_0 x0 := by simp only [r45_0, Bool.cond_self, bif_tf, bif_ft, Bool.not_not, List.drop_zero, List.take_length]
def r45_1 (x0 : Int) : List Row := bif !g160_0 x0 then [] else List.take (List.length (w45_0_0 (70 : Nat) [] x0 (0 : Int) (0 : Int))) (List.drop (0 : Nat) (w45_0_0 (70 : Nat) [] x0 (0 : Int) (0 : Int)))
def g45_1 (x0 : Int) : List Row := bif !g160_0 x0 then [] else w45_0_0 (70 : Nat) [] x0 (0 : Int) (0 : Int)
theorem c45_1 (x0 : Int) : r45_1 x0 = g45_1 x0 := by simp only [r45_1, g45_1, Bool.cond_self, bif_tf, bif_ft, Bool.not_not, List.drop_zero, List.take_length]
theorem n45_0 (x0 : Int) : (bif !g160_0 x0 then (0 : Nat) else List.length (w45_0_0 (70 : Nat) [] x0 (0 : Int) (0 : Int))) = List.length (g45_1 x0) := by simp only [g45_1, len_cond, List.length_nil, ri_len, List.length_cons, List.drop_zero, List.take_length, Nat.reduceAdd, Bool.cond_self]
theorem k45 (x0 : Int) (h : (true) = true) : (decide ((0 : Nat) + List.length (w45_0_0 (70 : Nat) [] x0 (0 : Int) (0 : Int)) ≤ List.length (w45_0_0 (70 : Nat) [] x0 (0 : Int) (0 : Int))) && true && (decide (List.length (w45_0_0 (70 : Nat) [] x0 (0 : Int) (0 : Int)) = List.length (w45_0_0 (70 : Nat) [] x0 (0 : Int) (0 : Int))) && true) || !g160_0 x0) = true := by
  simp only [Bool.and_true, Bool.true_and, Bool.or_true, Bool.true_or, Bool.or_false, Bool.false_or, Bool.and_self, Bool.cond_self, Bool.not_true, Bool.not_false, Bool.false_and, Bool.and_false, u64_dec, Nat.zero_add, Nat.le_refl, decide_true, eq_self, List.drop_zero, List.take_length]
theorem d45 (x0 : Int) : fnL Q160 [] [] (lq45x0 70) 70 F45 [.one (.lit (.int .i64 x0))] [] = some ((SV.tup [SV.one (T.sl (0 : Nat) (0 : Nat) (bif !g160_0 x0 then (0 : Nat) else List.length (w45_0_0 (70 : Nat) [] x0 (0 : Int) (0 : Int)))), SV.one (T.lit (Value.bool (r45_0 x0)))], [Blk.lst (1 : Nat) (r45_1 x0)]), decide ((0 : Nat) + List.length (w45_0_0 (70 : Nat) [] x0 (0 : Int) (0 : Int)) ≤ List.length (w45_0_0 (70 : Nat) [] x0 (0 : Int) (0 : Int))) && true && (decide (List.length (w45_0_0 (70 : Nat) [] x0 (0 : Int) (0 : Int)) = List.length (w45_0_0 (70 : Nat) [] x0 (0 : Int) (0 : Int))) && true) || !g160_0 x0) := by kernel_rfl
theorem e45 (x0 : Int) : fnL Q160 [] [] (lq45x0 70) 70 F45 [.one (.lit (.int .i64 x0))] [] = some ((SV.tup [SV.one (T.sl (0 : Nat) (0 : Nat) (List.length (g45_1 x0))), SV.one (T.lit (Value.bool (g160_0 x0)))], [Blk.lst (1 : Nat) (g45_1 x0)]), decide ((0 : Nat) + List.length (w45_0_0 (70 : Nat) [] x0 (0 : Int) (0 : Int)) ≤ List.length (w45_0_0 (70 : Nat) [] x0 (0 : Int) (0 : Int))) && true && (decide (List.length (w45_0_0 (70 : Nat) [] x0 (0 : Int) (0 : Int)) = List.length (w45_0_0 (70 : Nat) [] x0 (0 : Int) (0 : Int))) && true) || !g160_0 x0) := by rw [d45, c45_0, c45_1, n45_0 x0]
def q45 : List SV → List Blk → Option ((SV × List Blk) × Bool)
  | [.one (.lit (.int .i64 x0))], [] => some ((SV.tup [SV.one (T.sl (0 : Nat) (0 : Nat) (List.length (g45_1 x0))), SV.one (T.lit (Value.bool (g160_0 x0)))], [Blk.lst (1 : Nat) (g45_1 x0)]), true)
  | _, _ => none
theorem t45 (args : List SV) (hp : List Blk) (r : SV × List Blk) (h : q45 args hp = some (r, true)) : R 45 args hp = some r := by
  unfold q45 at h
  split at h
  · rename_i x0; exact R_fn at45 70 (fnL_run Q160_ok (by simp only [F45, F45b0, Loops, true_and, and_true]; first | trivial | (repeat' apply And.intro) <;> first | trivial  | exact fun σ σr o h hl => lt45_0 _ σ σr o h hl) (okTrans (e45 x0) (k45 x0) h))
  · simp at h
noncomputable def Q45 : Qt := qcons 45 q45 Q160
theorem Q45_ok : QOk R Q45 := qcons_ok t45 Q160_ok
/-! impl.twoWords -/
def g161_0 (x0 : Int) : Int := IntKind.wrap IntKind.i64 (↑(BitVec.toNat (BitVec.ofInt (64 : Nat) (Int.fdiv x0 (65536 : Int)) &&& BitVec.ofInt (64 : Nat) (65535 : Int))) : Int)
def g161_1 (x0 : Int) : Int := IntKind.wrap IntKind.i64 (↑(BitVec.toNat (BitVec.ofInt (64 : Nat) x0 &&& BitVec.ofInt (64 : Nat) (65535 : Int))) : Int)
theorem e161 (x0 : Int) : fnT Q45 [] [] 0 F161 [.one (.lit (.int .i64 x0))] [] = some ((SV.tup [SV.one (T.lit (Value.int IntKind.i64 (g161_0 x0))), SV.one (T.lit (Value.int IntKind.i64 (g161_1 x0)))], []), true) := by kernel_rfl
def q161 : List SV → List Blk → Option ((SV × List Blk) × Bool)
  | [.one (.lit (.int .i64 x0))], [] => some ((SV.tup [SV.one (T.lit (Value.int IntKind.i64 (g161_0 x0))), SV.one (T.lit (Value.int IntKind.i64 (g161_1 x0)))], []), true)
  | _, _ => none
theorem t161 (args : List SV) (hp : List Blk) (r : SV × List Blk) (h : q161 args hp = some (r, true)) : R 161 args hp = some r := by
  unfold q161 at h
  split at h
  · rename_i x0; exact R_fn at161 0 (fnT_run Q45_ok ((e161 x0).trans h))
  · simp at h
noncomputable def Q161 : Qt := qcons 161 q161 Q45
theorem Q161_ok : QOk R Q161 := qcons_ok t161 Q45_ok
/-! impl.MulBooth -/
def s38_0 (v0 : List Row) (v1 : Int) (v2 : Int) (v3 : Int) (v4 : Int) : St := ⟨[(0, .one (.lit (.int .i64 v1))), (9, .one (.lit (.int .i64 v2))), (26, .one (.sl 0 0 (List.length v0))), (27, .one (.lit (.int .i64 v3))), (28, .one (.lit (.int .i64 v4)))], [.lst 1 v0]⟩
def x38_0 (v0 : List Row) (v1 : Int) (v2 : Int) (v3 : Int) (v4 : Int) : List (Ex × Bool × Tr) := [(Ex.brk (0 : Nat), !decide (v4 < v3), Tr.leaf { sl := [((0 : Nat), SV.one (T.lit (Value.int IntKind.i64 v1))), ((9 : Nat), SV.one (T.lit (Value.int IntKind.i64 v2))), ((26 : Nat), SV.one (T.sl (0 : Nat) (0 : Nat) (List.length v0))), ((27 : Nat), SV.one (T.lit (Value.int IntKind.i64 v3))), ((28 : Nat), SV.one (T.lit (Value.int IntKind.i64 v4))), ((29 : Nat), SV.one (T.lit (Value.bool (decide (v4 < v3)))))], hp := [Blk.lst (1 : Nat) v0] })]
def u38_0 (v0 : List Row) (v1 : Int) (v2 : Int) (v3 : Int) (v4 : Int) : St := { sl := [((0 : Nat), SV.one (T.lit (Value.int IntKind.i64 v1))), ((9 : Nat), SV.one (T.lit (Value.int IntKind.i64 (IntKind.wrap IntKind.i64 (v2 + IntKind.wrap IntKind.i64 (IntKind.wrap IntKind.i64 (g157_0 (2 : Int) v1 * (2 : Int) ^ min (Int.toNat v4) (64 : Nat)) * intAt v0 ((0 : Nat) + Int.toNat v4) (0 : Nat))))))), ((26 : Nat), SV.one (T.sl (0 : Nat) (0 : Nat) (List.length v0))), ((27 : Nat), SV.one (T.lit (Value.int IntKind.i64 v3))), ((28 : Nat), SV.one (T.lit (Value.int IntKind.i64 (IntKind.wrap IntKind.i64 (v4 + (1 : Int))))))], hp := [Blk.lst (1 : Nat) v0] }
def y38_0 (v0 : List Row) (v1 : Int) (v2 : Int) (v3 : Int) (v4 : Int) : Bool := decide ((0 : Int) ≤ v4) && decide (v4 < (↑(List.length v0) : Int)) && hasRow [Kd.int IntKind.i64] v0 ((0 : Nat) + Int.toNat v4) (0 : Nat) && decide ((0 : Int) ≤ v4) || !decide (v4 < v3)
theorem hy38_0 (v0 : List Row) (v1 : Int) (v2 : Int) (v3 : Int) (v4 : Int) : (decide ((0 : Int) ≤ v4) && decide (v4 < (↑(List.length v0) : Int)) && (hasRow [Kd.int IntKind.i64] v0 ((0 : Nat) + Int.toNat v4) (0 : Nat) && true) && (decide ((0 : Int) ≤ v4) && true) && true || !decide (v4 < v3)) = y38_0 v0 v1 v2 v3 v4 := by simp only [y38_0, List.drop_zero, List.take_length, Nat.zero_add, Nat.le_refl, Int.le_refl, decide_true, eq_self, ri_len, List.length_cons, List.length_nil, List.length_append, Nat.reduceAdd, u64_dec, Bool.and_self, Bool.true_and, Bool.and_true, Bool.or_true, Bool.true_or, Bool.or_false, Bool.false_or, Bool.cond_self, Bool.not_true, Bool.not_false]
def z38_0 (v0 : List Row) (v1 : Int) (v2 : Int) (v3 : Int) (v4 : Int) : Bool := (!decide (v4 < v3) || false)
def L38_0 : Nat → List Row → Int → Int → Int → Int → Option (List Row × Int × Int × Int × Int)
  | 0, _, _, _, _, _ => none
  | k + 1, v0, v1, v2, v3, v4 => bif y38_0 v0 v1 v2 v3 v4 then bif z38_0 v0 v1 v2 v3 v4 then some (v0, v1, v2, v3, v4) else L38_0 k (v0) (v1) (IntKind.wrap IntKind.i64 (v2 + IntKind.wrap IntKind.i64 (IntKind.wrap IntKind.i64 (g157_0 (2 : Int) v1 * (2 : Int) ^ min (Int.toNat v4) (64 : Nat)) * intAt v0 ((0 : Nat) + Int.toNat v4) (0 : Nat)))) (v3) (IntKind.wrap IntKind.i64 (v4 + (1 : Int))) else none
theorem hb38_0 (n : Nat) (v0 : List Row) (v1 : Int) (v2 : Int) (v3 : Int) (v4 : Int) : Go.Zq.evt Q161 [(31, [.int .i64]), (32, [.int .i64])] [] lqN 0 n F38b0 (s38_0 v0 v1 v2 v3 v4) = some (⟨x38_0 v0 v1 v2 v3 v4, some (.leaf (u38_0 v0 v1 v2 v3 v4))⟩, y38_0 v0 v1 v2 v3 v4) := by
  rw [← hy38_0 v0 v1 v2 v3 v4]
  kernel_rfl
theorem hc38_0 (v0 : List Row) (v1 : Int) (v2 : Int) (v3 : Int) (v4 : Int) : canonS 0 [0, 9, 26, 27, 28] (u38_0 v0 v1 v2 v3 v4) = some (s38_0 (v0) (v1) (IntKind.wrap IntKind.i64 (v2 + IntKind.wrap IntKind.i64 (IntKind.wrap IntKind.i64 (g157_0 (2 : Int) v1 * (2 : Int) ^ min (Int.toNat v4) (64 : Nat)) * intAt v0 ((0 : Nat) + Int.toNat v4) (0 : Nat)))) (v3) (IntKind.wrap IntKind.i64 (v4 + (1 : Int))), true) := by
  have e : canonS 0 [0, 9, 26, 27, 28] (u38_0 v0 v1 v2 v3 v4) = some ({ sl := [((0 : Nat), SV.one (T.lit (Value.int IntKind.i64 v1))), ((9 : Nat), SV.one (T.lit (Value.int IntKind.i64 (IntKind.wrap IntKind.i64 (v2 + IntKind.wrap IntKind.i64 (IntKind.wrap IntKind.i64 (g157_0 (2 : Int) v1 * (2 : Int) ^ min (Int.toNat v4) (64 : Nat)) * intAt v0 ((0 : Nat) + Int.toNat v4) (0 : Nat))))))), ((26 : Nat), SV.one (T.sl (0 : Nat) (0 : Nat) (List.length v0))), ((27 : Nat), SV.one (T.lit (Value.int IntKind.i64 v3))), ((28 : Nat), SV.one (T.lit (Value.int IntKind.i64 (IntKind.wrap IntKind.i64 (v4 + (1 : Int))))))], hp := [Blk.lst (1 : Nat) (List.take (List.length v0) (List.drop (0 : Nat) v0))] }, decide ((0 : Nat) + List.length v0 ≤ List.length v0) && true && (decide (List.length v0 = List.length v0) && true)) := by kernel_rfl
  rw [e]
  simp only [s38_0, List.drop_zero, List.take_length, Nat.zero_add, Nat.le_refl, decide_true, eq_self, Bool.and_self, Bool.true_and, Bool.and_true]
def w38_0_0 (n : Nat) (v0 : List Row) (v1 : Int) (v2 : Int) (v3 : Int) (v4 : Int) : List Row := ((L38_0 n v0 v1 v2 v3 v4).getD (default, default, default, default, default)).1
def w38_0_1 (n : Nat) (v0 : List Row) (v1 : Int) (v2 : Int) (v3 : Int) (v4 : Int) : Int := ((L38_0 n v0 v1 v2 v3 v4).getD (default, default, default, default, default)).2.1
def w38_0_2 (n : Nat) (v0 : List Row) (v1 : Int) (v2 : Int) (v3 : Int) (v4 : Int) : Int := ((L38_0 n v0 v1 v2 v3 v4).getD (default, default, default, default, default)).2.2.1
def w38_0_3 (n : Nat) (v0 : List Row) (v1 : Int) (v2 : Int) (v3 : Int) (v4 : Int) : Int := ((L38_0 n v0 v1 v2 v3 v4).getD (default, default, default, default, default)).2.2.2.1
def w38_0_4 (n : Nat) (v0 : List Row) (v1 : Int) (v2 : Int) (v3 : Int) (v4 : Int) : Int := ((L38_0 n v0 v1 v2 v3 v4).getD (default, default, default, default, default)).2.2.2.2
def lq38_0 (n : Nat) (σ : St) : Option (O × Bool) :=
  match canonS 0 [0, 9, 26, 27, 28] σ with
  | some (⟨[(0, .one (.lit (.int .i64 v1))), (9, .one (.lit (.int .i64 v2))), (26, .one (.sl 0 0 l0)), (27, .one (.lit (.int .i64 v3))), (28, .one (.lit (.int .i64 v4)))], [.lst 1 v0]⟩, c) => some (⟨x38_0 (w38_0_0 n v0 v1 v2 v3 v4) (w38_0_1 n v0 v1 v2 v3 v4) (w38_0_2 n v0 v1 v2 v3 v4) (w38_0_3 n v0 v1 v2 v3 v4) (w38_0_4 n v0 v1 v2 v3 v4), none⟩, (c && decide (l0 = List.length v0)) && (L38_0 n v0 v1 v2 v3 v4).isSome)
  | _ => none
theorem lt38_0 (n : Nat) : Tells (lq38_0 n) (evc R 0 n (.loop [0, 9, 26, 27, 28] F38b0)) := fun σ σr o h hl => by
  unfold lq38_0 at h
  split at h
  · rename_i v1 v2 l0 v3 v4 v0 c hs
    have hk : (c && decide (l0 = List.length v0)) && (L38_0 n v0 v1 v2 v3 v4).isSome = true := by
      have := congrArg (Option.map (·.2)) h
      simpa using this
    obtain ⟨ho, -⟩ := and_t hk
    obtain ⟨ho, e0⟩ := and_t ho
    have e0 := of_decide_eq_true e0
    subst e0
    simp only [decide_true, Bool.and_true] at h
    exact lq_tells (V := List Row × Int × Int × Int × Int) (f := Go.Zq.evt Q161 [(31, [.int .i64]), (32, [.int .i64])] [] lqN 0 n F38b0) (st := fun v => s38_0 v.1 v.2.1 v.2.2.1 v.2.2.2.1 v.2.2.2.2) (ν := fun v => u38_0 v.1 v.2.1 v.2.2.1 v.2.2.2.1 v.2.2.2.2) (ob := (fun v => ⟨x38_0 v.1 v.2.1 v.2.2.1 v.2.2.2.1 v.2.2.2.2, some (.leaf (u38_0 v.1 v.2.1 v.2.2.1 v.2.2.2.1 v.2.2.2.2))⟩)) (okb := fun v => y38_0 v.1 v.2.1 v.2.2.1 v.2.2.2.1 v.2.2.2.2) (next := fun v => (fun v0 v1 v2 v3 v4 => (v0, v1, IntKind.wrap IntKind.i64 (v2 + IntKind.wrap IntKind.i64 (IntKind.wrap IntKind.i64 (g157_0 (2 : Int) v1 * (2 : Int) ^ min (Int.toNat v4) (64 : Nat)) * intAt v0 ((0 : Nat) + Int.toNat v4) (0 : Nat))), v3, IntKind.wrap IntKind.i64 (v4 + (1 : Int)))) v.1 v.2.1 v.2.2.1 v.2.2.2.1 v.2.2.2.2)
      (evt_tells Q161_ok (by simp only [F38, F38b0, Loops, and_self, and_true])) (fun v => hb38_0 n v.1 v.2.1 v.2.2.1 v.2.2.2.1 v.2.2.2.2) (fun _ => rfl) (fun v _ _ => hc38_0 v.1 v.2.1 v.2.2.1 v.2.2.2.1 v.2.2.2.2) (L := fun k v => L38_0 k v.1 v.2.1 v.2.2.1 v.2.2.2.1 v.2.2.2.2) (fun _ => rfl) (fun _ _ => rfl) (v := (v0, v1, v2, v3, v4)) (d := (default, default, default, default, default)) hs h hl
  · simp at h
def lq38x0 (n : Nat) : Lq := fun live σ => if live = [0, 9, 26, 27, 28] then lq38_0 n σ else none
def r38_0 (x0 : Int) (x1 : Int) : Int := bif bif !g160_0 x0 then true else !g160_0 x1 then (0 : Int) else g161_0 (w38_0_2 (70 : Nat) (List.take (List.length (g45_1 x1)) (List.drop (0 : Nat) (g45_1 x1))) x0 (0 : Int) (↑(List.length (g45_1 x1)) : Int) (0 : Int))
def g38_0 (x0 : Int) (x1 : Int) : Int := bif bif !g160_0 x0 then true else !g160_0 x1 then (0 : Int) else g161_0 (w38_0_2 (70 : Nat) (g45_1 x1) x0 (0 : Int) (↑(List.length (g45_1 x1)) : Int) (0 : Int))
theorem c38_0 (x0 : Int) (x1 : Int) : r38_0 x0 x1 = g38_0 x0 x1 := by simp only [r38_0, g38_0, Bool.cond_self, bif_tf, bif_ft, Bool.not_not, List.drop_zero, List.take_length]
def r38_1 (x0 : Int) (x1 : Int) : Int := bif bif !g160_0 x0 then true else !g160_0 x1 then (0 : Int) else g161_1 (w38_0_2 (70 : Nat) (List.take (List.length (g45_1 x1)) (List.drop (0 : Nat) (g45_1 x1))) x0 (0 : Int) (↑(List.length (g45_1 x1)) : Int) (0 : Int))
def g38_1 (x0 : Int) (x1 : Int) : Int := bif bif !g160_0 x0 then true else !g160_0 x1 then (0 : Int) else g161_1 (w38_0_2 (70 : Nat) (g45_1 x1) x0 (0 : Int) (↑(List.length (g45_1 x1)) : Int) (0 : Int))
theorem c38_1 (x0 : Int) (x1 : Int) : r38_1 x0 x1 = g38_1 x0 x1 := by simp only [r38_1, g38_1, Bool.cond_self, bif_tf, bif_ft, Bool.not_not, List.drop_zero, List.take_length]
def r38_2 (x0 : Int) (x1 : Int) : Bool := bif bif !g160_0 x0 then true else !g160_0 x1 then false else true
def g38_2 (x0 : Int) (x1 : Int) : Bool := !bif !g160_0 x0 then true else !g160_0 x1
theorem c38_2 (x0 : Int) (x1 : Int) : r38_2 x0 x1 = g38_2 x0 x1 := by simp only [r38_2, g38_2, Bool.cond_self, bif_tf, bif_ft, Bool.not_not, List.drop_zero, List.take_length]
theorem k38 (x0 : Int) (x1 : Int) (h : (Option.isSome (L38_0 (70 : Nat) (g45_1 x1) x0 (0 : Int) (↑(List.length (g45_1 x1)) : Int) (0 : Int)) || bif !g160_0 x0 then true else !g160_0 x1) = true) : ((decide ((0 : Nat) + List.length (g45_1 x1) ≤ List.length (g45_1 x1)) && true && (decide ((0 : Nat) + List.length (g45_1 x1) ≤ List.length (g45_1 x1)) && true && (decide (List.length (g45_1 x1) = List.length (g45_1 x1)) && true) && decide (List.length (g45_1 x1) = List.length (List.take (List.length (g45_1 x1)) (List.drop (0 : Nat) (g45_1 x1)))) && Option.isSome (L38_0 (70 : Nat) (List.take (List.length (g45_1 x1)) (List.drop (0 : Nat) (g45_1 x1))) x0 (0 : Int) (↑(List.length (g45_1 x1)) : Int) (0 : Int))) && true || bif !g160_0 x0 then true else !g160_0 x1) && true) = true := by
  have h0 := h
  simp only [h0, Bool.and_true, Bool.true_and, Bool.or_true, Bool.true_or, Bool.or_false, Bool.false_or, Bool.and_self, Bool.cond_self, Bool.not_true, Bool.not_false, Bool.false_and, Bool.and_false, u64_dec, Nat.zero_add, Nat.le_refl, decide_true, eq_self, List.drop_zero, List.take_length]
theorem d38 (x0 : Int) (x1 : Int) : fnL Q161 [(31, [.int .i64]), (32, [.int .i64])] [] (lq38x0 70) 70 F38 [.one (.lit (.int .i64 x0)), .one (.lit (.int .i64 x1))] [] = some ((SV.tup [SV.one (T.lit (Value.int IntKind.i64 (r38_0 x0 x1))), SV.one (T.lit (Value.int IntKind.i64 (r38_1 x0 x1))), SV.one (T.lit (Value.bool (r38_2 x0 x1)))], []), (decide ((0 : Nat) + List.length (g45_1 x1) ≤ List.length (g45_1 x1)) && true && (decide ((0 : Nat) + List.length (g45_1 x1) ≤ List.length (g45_1 x1)) && true && (decide (List.length (g45_1 x1) = List.length (g45_1 x1)) && true) && decide (List.length (g45_1 x1) = List.length (List.take (List.length (g45_1 x1)) (List.drop (0 : Nat) (g45_1 x1)))) && Option.isSome (L38_0 (70 : Nat) (List.take (List.length (g45_1 x1)) (List.drop (0 : Nat) (g45_1 x1))) x0 (0 : Int) (↑(List.length (g45_1 x1)) : Int) (0 : Int))) && true || bif !g160_0 x0 then true else !g160_0 x1) && true) := by kernel_rfl
theorem e38 (x0 : Int) (x1 : Int) : fnL Q161 [(31, [.int .i64]), (32, [.int .i64])] [] (lq38x0 70) 70 F38 [.one (.lit (.int .i64 x0)), .one (.lit (.int .i64 x1))] [] = some ((SV.tup [SV.one (T.lit (Value.int IntKind.i64 (g38_0 x0 x1))), SV.one (T.lit (Value.int IntKind.i64 (g38_1 x0 x1))), SV.one (T.lit (Value.bool (g38_2 x0 x1)))], []), (decide ((0 : Nat) + List.length (g45_1 x1) ≤ List.length (g45_1 x1)) && true && (decide ((0 : Nat) + List.length (g45_1 x1) ≤ List.length (g45_1 x1)) && true && (decide (List.length (g45_1 x1) = List.length (g45_1 x1)) && true) && decide (List.length (g45_1 x1) = List.length (List.take (List.length (g45_1 x1)) (List.drop (0 : Nat) (g45_1 x1)))) && Option.isSome (L38_0 (70 : Nat) (List.take (List.length (g45_1 x1)) (List.drop (0 : Nat) (g45_1 x1))) x0 (0 : Int) (↑(List.length (g45_1 x1)) : Int) (0 : Int))) && true || bif !g160_0 x0 then true else !g160_0 x1) && true) := by rw [d38, c38_0, c38_1, c38_2]
def q38 : List SV → List Blk → Option ((SV × List Blk) × Bool)
  | [.one (.lit (.int .i64 x0)), .one (.lit (.int .i64 x1))], [] => some ((SV.tup [SV.one (T.lit (Value.int IntKind.i64 (g38_0 x0 x1))), SV.one (T.lit (Value.int IntKind.i64 (g38_1 x0 x1))), SV.one (T.lit (Value.bool (g38_2 x0 x1)))], []), Option.isSome (L38_0 (70 : Nat) (g45_1 x1) x0 (0 : Int) (↑(List.length (g45_1 x1)) : Int) (0 : Int)) || bif !g160_0 x0 then true else !g160_0 x1)
  | _, _ => none
theorem t38 (args : List SV) (hp : List Blk) (r : SV × List Blk) (h : q38 args hp = some (r, true)) : R 38 args hp = some r := by
  unfold q38 at h
  split at h
  · rename_i x0 x1; exact R_fn at38 70 (fnL_run Q161_ok (by simp only [F38, F38b0, Loops, true_and, and_true]; first | trivial | (repeat' apply And.intro) <;> first | trivial  | exact fun σ σr o h hl => lt38_0 _ σ σr o h hl) (okTrans (e38 x0 x1) (k38 x0 x1) h))
  · simp at h
noncomputable def Q38 : Qt := qcons 38 q38 Q161
theorem Q38_ok : QOk R Q38 := qcons_ok t38 Q161_ok
/-! spec.l1In -/
def g144_0 (x0 : Int) (x1 : Int) (x2 : Int) : Bool := bif decide (x0 ≥ x1) then decide (x0 ≤ x2) else false
theorem e144 (x0 : Int) (x1 : Int) (x2 : Int) : fnT Q38 [] [] 0 F144 [.one (.lit (.int .i64 x0)), .one (.lit (.int .i64 x1)), .one (.lit (.int .i64 x2))] [] = some ((SV.one (T.lit (Value.bool (g144_0 x0 x1 x2))), []), true) := by kernel_rfl
def q144 : List SV → List Blk → Option ((SV × List Blk) × Bool)
  | [.one (.lit (.int .i64 x0)), .one (.lit (.int .i64 x1)), .one (.lit (.int .i64 x2))], [] => some ((SV.one (T.lit (Value.bool (g144_0 x0 x1 x2))), []), true)
  | _, _ => none
theorem t144 (args : List SV) (hp : List Blk) (r : SV × List Blk) (h : q144 args hp = some (r, true)) : R 144 args hp = some r := by
  unfold q144 at h
  split at h
  · rename_i x0 x1 x2; exact R_fn at144 0 (fnT_run Q38_ok ((e144 x0 x1 x2).trans h))
  · simp at h
noncomputable def Q144 : Qt := qcons 144 q144 Q38
theorem Q144_ok : QOk R Q144 := qcons_ok t144 Q38_ok
/-! spec.l6Word -/
def g162_0 (x0 : Int) : Bool := g144_0 x0 (0 : Int) (65535 : Int)
theorem e162 (x0 : Int) : fnT Q144 [] [] 0 F162 [.one (.lit (.int .i64 x0))] [] = some ((SV.one (T.lit (Value.bool (g162_0 x0))), []), true) := by kernel_rfl
def q162 : List SV → List Blk → Option ((SV × List Blk) × Bool)
  | [.one (.lit (.int .i64 x0))], [] => some ((SV.one (T.lit (Value.bool (g162_0 x0))), []), true)
  | _, _ => none
theorem t162 (args : List SV) (hp : List Blk) (r : SV × List Blk) (h : q162 args hp = some (r, true)) : R 162 args hp = some r := by
  unfold q162 at h
  split at h
  · rename_i x0; exact R_fn at162 0 (fnT_run Q144_ok ((e162 x0).trans h))
  · simp at h
noncomputable def Q162 : Qt := qcons 162 q162 Q144
theorem Q162_ok : QOk R Q162 := qcons_ok t162 Q144_ok
/-! spec.l9Booth -/
def s163_0 (v0 : List Row) (v1 : Int) (v2 : Int) (v3 : Int) : St := ⟨[(0, .one (.lit (.int .i64 v1))), (3, .one (.sl 0 0 (List.length v0))), (4, .one (.lit (.int .i64 v2))), (5, .one (.lit (.int .i64 v3)))], [.lst 1 v0]⟩
def x163_0 (v0 : List Row) (v1 : Int) (v2 : Int) (v3 : Int) : List (Ex × Bool × Tr) := [(Ex.brk (0 : Nat), !decide (v3 < (16 : Int)), Tr.leaf { sl := [((0 : Nat), SV.one (T.lit (Value.int IntKind.i64 v1))), ((3 : Nat), SV.one (T.sl (0 : Nat) (0 : Nat) (List.length v0))), ((4 : Nat), SV.one (T.lit (Value.int IntKind.i64 v2))), ((5 : Nat), SV.one (T.lit (Value.int IntKind.i64 v3))), ((8 : Nat), SV.one (T.lit (Value.bool (decide (v3 < (16 : Int))))))], hp := [Blk.lst (1 : Nat) v0] })]
def u163_0 (v0 : List Row) (v1 : Int) (v2 : Int) (v3 : Int) : St := { sl := [((0 : Nat), SV.one (T.lit (Value.int IntKind.i64 v1))), ((3 : Nat), SV.one (T.sl (2 : Nat) (0 : Nat) (List.length (List.take (List.length v0) (List.drop (0 : Nat) v0) ++ ri [IntKind.wrap IntKind.i64 (v2 - IntKind.wrap IntKind.i64 (↑(BitVec.toNat (BitVec.ofInt (64 : Nat) (Int.fdiv v1 ((2 : Int) ^ min (Int.toNat (IntKind.wrap IntKind.u64 v3)) (64 : Nat))) &&& BitVec.ofInt (64 : Nat) (1 : Int))) : Int))])))), ((4 : Nat), SV.one (T.lit (Value.int IntKind.i64 (IntKind.wrap IntKind.i64 (↑(BitVec.toNat (BitVec.ofInt (64 : Nat) (Int.fdiv v1 ((2 : Int) ^ min (Int.toNat (IntKind.wrap IntKind.u64 v3)) (64 : Nat))) &&& BitVec.ofInt (64 : Nat) (1 : Int))) : Int))))), ((5 : Nat), SV.one (T.lit (Value.int IntKind.i64 (IntKind.wrap IntKind.i64 (v3 + (1 : Int))))))], hp := [Blk.dead, Blk.lst (1 : Nat) [[T.lit (Value.int IntKind.i64 (IntKind.wrap IntKind.i64 (v2 - IntKind.wrap IntKind.i64 (↑(BitVec.toNat (BitVec.ofInt (64 : Nat) (Int.fdiv v1 ((2 : Int) ^ min (Int.toNat (IntKind.wrap IntKind.u64 v3)) (64 : Nat))) &&& BitVec.ofInt (64 : Nat) (1 : Int))) : Int))))]], Blk.lst (1 : Nat) (List.take (List.length v0) (List.drop (0 : Nat) v0) ++ ri [IntKind.wrap IntKind.i64 (v2 - IntKind.wrap IntKind.i64 (↑(BitVec.toNat (BitVec.ofInt (64 : Nat) (Int.fdiv v1 ((2 : Int) ^ min (Int.toNat (IntKind.wrap IntKind.u64 v3)) (64 : Nat))) &&& BitVec.ofInt (64 : Nat) (1 : Int))) : Int))])] }
def y163_0 (v0 : List Row) (v1 : Int) (v2 : Int) (v3 : Int) : Bool := decide ((0 : Nat) + List.length v0 = List.length v0) && (decide ((List.length v0 + (1 : Nat)) * (8 : Nat) ≤ (140737488355328 : Nat)) && decide (List.length v0 + (1 : Nat) ≤ (140737488355328 : Nat))) || !decide (v3 < (16 : Int))
theorem hy163_0 (v0 : List Row) (v1 : Int) (v2 : Int) (v3 : Int) : (decide ((0 : Int) ≤ IntKind.wrap IntKind.u64 v3) && true && (decide ((0 : Nat) + List.length v0 ≤ List.length v0) && (decide ((0 : Nat) + (1 : Nat) ≤ (1 : Nat)) && (decide ((0 : Nat) + List.length v0 = List.length v0) && (decide ((List.length (List.take (List.length v0) (List.drop (0 : Nat) v0)) + (1 : Nat)) * (8 : Nat) ≤ (140737488355328 : Nat)) && decide (List.length (List.take (List.length v0) (List.drop (0 : Nat) v0)) + (1 : Nat) ≤ (140737488355328 : Nat))))) && true && true) && true || !decide (v3 < (16 : Int))) = y163_0 v0 v1 v2 v3 := by simp only [y163_0, List.drop_zero, List.take_length, Nat.zero_add, Nat.le_refl, Int.le_refl, decide_true, eq_self, ri_len, List.length_cons, List.length_nil, List.length_append, Nat.reduceAdd, u64_dec, Bool.and_self, Bool.true_and, Bool.and_true, Bool.or_true, Bool.true_or, Bool.or_false, Bool.false_or, Bool.cond_self, Bool.not_true, Bool.not_false]
def z163_0 (v0 : List Row) (v1 : Int) (v2 : Int) (v3 : Int) : Bool := (!decide (v3 < (16 : Int)) || false)
def L163_0 : Nat → List Row → Int → Int → Int → Option (List Row × Int × Int × Int)
  | 0, _, _, _, _ => none
  | k + 1, v0, v1, v2, v3 => bif y163_0 v0 v1 v2 v3 then bif z163_0 v0 v1 v2 v3 then some (v0, v1, v2, v3) else L163_0 k (v0 ++ ri [IntKind.wrap IntKind.i64 (v2 - IntKind.wrap IntKind.i64 (↑(BitVec.toNat (BitVec.ofInt (64 : Nat) (Int.fdiv v1 ((2 : Int) ^ min (Int.toNat (IntKind.wrap IntKind.u64 v3)) (64 : Nat))) &&& BitVec.ofInt (64 : Nat) (1 : Int))) : Int))]) (v1) (IntKind.wrap IntKind.i64 (↑(BitVec.toNat (BitVec.ofInt (64 : Nat) (Int.fdiv v1 ((2 : Int) ^ min (Int.toNat (IntKind.wrap IntKind.u64 v3)) (64 : Nat))) &&& BitVec.ofInt (64 : Nat) (1 : Int))) : Int)) (IntKind.wrap IntKind.i64 (v3 + (1 : Int))) else none
theorem hb163_0 (n : Nat) (v0 : List Row) (v1 : Int) (v2 : Int) (v3 : Int) : Go.Zq.evt Q162 [] [] lqN 0 n F163b0 (s163_0 v0 v1 v2 v3) = some (⟨x163_0 v0 v1 v2 v3, some (.leaf (u163_0 v0 v1 v2 v3))⟩, y163_0 v0 v1 v2 v3) := by
  rw [← hy163_0 v0 v1 v2 v3]
  kernel_rfl
theorem hc163_0 (v0 : List Row) (v1 : Int) (v2 : Int) (v3 : Int) : canonS 0 [0, 3, 4, 5] (u163_0 v0 v1 v2 v3) = some (s163_0 (v0 ++ ri [IntKind.wrap IntKind.i64 (v2 - IntKind.wrap IntKind.i64 (↑(BitVec.toNat (BitVec.ofInt (64 : Nat) (Int.fdiv v1 ((2 : Int) ^ min (Int.toNat (IntKind.wrap IntKind.u64 v3)) (64 : Nat))) &&& BitVec.ofInt (64 : Nat) (1 : Int))) : Int))]) (v1) (IntKind.wrap IntKind.i64 (↑(BitVec.toNat (BitVec.ofInt (64 : Nat) (Int.fdiv v1 ((2 : Int) ^ min (Int.toNat (IntKind.wrap IntKind.u64 v3)) (64 : Nat))) &&& BitVec.ofInt (64 : Nat) (1 : Int))) : Int)) (IntKind.wrap IntKind.i64 (v3 + (1 : Int))), true) := by
  have e : canonS 0 [0, 3, 4, 5] (u163_0 v0 v1 v2 v3) = some ({ sl := [((0 : Nat), SV.one (T.lit (Value.int IntKind.i64 v1))), ((3 : Nat), SV.one (T.sl (0 : Nat) (0 : Nat) (List.length (List.take (List.length v0) (List.drop (0 : Nat) v0) ++ ri [IntKind.wrap IntKind.i64 (v2 - IntKind.wrap IntKind.i64 (↑(BitVec.toNat (BitVec.ofInt (64 : Nat) (Int.fdiv v1 ((2 : Int) ^ min (Int.toNat (IntKind.wrap IntKind.u64 v3)) (64 : Nat))) &&& BitVec.ofInt (64 : Nat) (1 : Int))) : Int))])))), ((4 : Nat), SV.one (T.lit (Value.int IntKind.i64 (IntKind.wrap IntKind.i64 (↑(BitVec.toNat (BitVec.ofInt (64 : Nat) (Int.fdiv v1 ((2 : Int) ^ min (Int.toNat (IntKind.wrap IntKind.u64 v3)) (64 : Nat))) &&& BitVec.ofInt (64 : Nat) (1 : Int))) : Int))))), ((5 : Nat), SV.one (T.lit (Value.int IntKind.i64 (IntKind.wrap IntKind.i64 (v3 + (1 : Int))))))], hp := [Blk.lst (1 : Nat) (List.take (List.length (List.take (List.length v0) (List.drop (0 : Nat) v0) ++ ri [IntKind.wrap IntKind.i64 (v2 - IntKind.wrap IntKind.i64 (↑(BitVec.toNat (BitVec.ofInt (64 : Nat) (Int.fdiv v1 ((2 : Int) ^ min (Int.toNat (IntKind.wrap IntKind.u64 v3)) (64 : Nat))) &&& BitVec.ofInt (64 : Nat) (1 : Int))) : Int))])) (List.drop (0 : Nat) (List.take (List.length v0) (List.drop (0 : Nat) v0) ++ ri [IntKind.wrap IntKind.i64 (v2 - IntKind.wrap IntKind.i64 (↑(BitVec.toNat (BitVec.ofInt (64 : Nat) (Int.fdiv v1 ((2 : Int) ^ min (Int.toNat (IntKind.wrap IntKind.u64 v3)) (64 : Nat))) &&& BitVec.ofInt (64 : Nat) (1 : Int))) : Int))])))] }, decide ((0 : Nat) + List.length (List.take (List.length v0) (List.drop (0 : Nat) v0) ++ ri [IntKind.wrap IntKind.i64 (v2 - IntKind.wrap IntKind.i64 (↑(BitVec.toNat (BitVec.ofInt (64 : Nat) (Int.fdiv v1 ((2 : Int) ^ min (Int.toNat (IntKind.wrap IntKind.u64 v3)) (64 : Nat))) &&& BitVec.ofInt (64 : Nat) (1 : Int))) : Int))]) ≤ List.length (List.take (List.length v0) (List.drop (0 : Nat) v0) ++ ri [IntKind.wrap IntKind.i64 (v2 - IntKind.wrap IntKind.i64 (↑(BitVec.toNat (BitVec.ofInt (64 : Nat) (Int.fdiv v1 ((2 : Int) ^ min (Int.toNat (IntKind.wrap IntKind.u64 v3)) (64 : Nat))) &&& BitVec.ofInt (64 : Nat) (1 : Int))) : Int))])) && true && (decide (List.length (List.take (List.length v0) (List.drop (0 : Nat) v0) ++ ri [IntKind.wrap IntKind.i64 (v2 - IntKind.wrap IntKind.i64 (↑(BitVec.toNat (BitVec.ofInt (64 : Nat) (Int.fdiv v1 ((2 : Int) ^ min (Int.toNat (IntKind.wrap IntKind.u64 v3)) (64 : Nat))) &&& BitVec.ofInt (64 : Nat) (1 : Int))) : Int))]) = List.length (List.take (List.length v0) (List.drop (0 : Nat) v0) ++ ri [IntKind.wrap IntKind.i64 (v2 - IntKind.wrap IntKind.i64 (↑(BitVec.toNat (BitVec.ofInt (64 : Nat) (Int.fdiv v1 ((2 : Int) ^ min (Int.toNat (IntKind.wrap IntKind.u64 v3)) (64 : Nat))) &&& BitVec.ofInt (64 : Nat) (1 : Int))) : Int))])) && true)) := by kernel_rfl
  rw [e]
  simp only [s163_0, List.drop_zero, List.take_length, Nat.zero_add, Nat.le_refl, decide_true, eq_self, Bool.and_self, Bool.true_and, Bool.and_true]
def w163_0_0 (n : Nat) (v0 : List Row) (v1 : Int) (v2 : Int) (v3 : Int) : List Row := ((L163_0 n v0 v1 v2 v3).getD (default, default, default, default)).1
def w163_0_1 (n : Nat) (v0 : List Row) (v1 : Int) (v2 : Int) (v3 : Int) : Int := ((L163_0 n v0 v1 v2 v3).getD (default, default, default, default)).2.1
def w163_0_2 (n : Nat) (v0 : List Row) (v1 : Int) (v2 : Int) (v3 : Int) : Int := ((L163_0 n v0 v1 v2 v3).getD (default, default, default, default)).2.2.1
def w163_0_3 (n : Nat) (v0 : List Row) (v1 : Int) (v2 : Int) (v3 : Int) : Int := ((L163_0 n v0 v1 v2 v3).getD (default, default, default, default)).2.2.2
def lq163_0 (n : Nat) (σ : St) : Option (O × Bool) :=
  match canonS 0 [0, 3, 4, 5] σ with
  | some (⟨[(0, .one (.lit (.int .i64 v1))), (3, .one (.sl 0 0 l0)), (4, .one (.lit (.int .i64 v2))), (5, .one (.lit (.int .i64 v3)))], [.lst 1 v0]⟩, c) => some (⟨x163_0 (w163_0_0 n v0 v1 v2 v3) (w163_0_1 n v0 v1 v2 v3) (w163_0_2 n v0 v1 v2 v3) (w163_0_3 n v0 v1 v2 v3), none⟩, (c && decide (l0 = List.length v0)) && (L163_0 n v0 v1 v2 v3).isSome)
  | _ => none
theorem lt163_0 (n : Nat) : Tells (lq163_0 n) (evc R 0 n (.loop [0, 3, 4, 5] F163b0)) := fun σ σr o h hl => by
  unfold lq163_0 at h
  split at h
  · rename_i v1 l0 v2 v3 v0 c hs
    have hk : (c && decide (l0 = List.length v0)) && (L163_0 n v0 v1 v2 v3).isSome = true := by
      have := congrArg (Option.map (·.2)) h
      simpa using this
    obtain ⟨ho, -⟩ := and_t hk
    obtain ⟨ho, e0⟩ := and_t ho
    have e0 := of_decide_eq_true e0
    subst e0
    simp only [decide_true, Bool.and_true] at h
    exact lq_tells (V := List Row × Int × Int × Int) (f := Go.Zq.evt Q162 [] [] lqN 0 n F163b0) (st := fun v => s163_0 v.1 v.2.1 v.2.2.1 v.2.2.2) (ν := fun v => u163_0 v.1 v.2.1 v.2.2.1 v.2.2.2) (ob := (fun v => ⟨x163_0 v.1 v.2.1 v.2.2.1 v.2.2.2, some (.leaf (u163_0 v.1 v.2.1 v.2.2.1 v.2.2.2))⟩)) (okb := fun v => y163_0 v.1 v.2.1 v.2.2.1 v.2.2.2) (next := fun v => (fun v0 v1 v2 v3 => (v0 ++ ri [IntKind.wrap IntKind.i64 (v2 - IntKind.wrap IntKind.i64 (↑(BitVec.toNat (BitVec.ofInt (64 : Nat) (Int.fdiv v1 ((2 : Int) ^ min (Int.toNat (IntKind.wrap IntKind.u64 v3)) (64 : Nat))) &&& BitVec.ofInt (64 : Nat) (1 : Int))) : Int))], v1, IntKind.wrap IntKind.i64 (↑(BitVec.toNat (BitVec.ofInt (64 : Nat) (Int.fdiv v1 ((2 : Int) ^ min (Int.toNat (IntKind.wrap IntKind.u64 v3)) (64 : Nat))) &&& BitVec.ofInt (64 : Nat) (1 : Int))) : Int), IntKind.wrap IntKind.i64 (v3 + (1 : Int)))) v.1 v.2.1 v.2.2.1 v.2.2.2)
      (evt_tells Q162_ok (by simp only [F163, F163b0, Loops, and_self, and_true])) (fun v => hb163_0 n v.1 v.2.1 v.2.2.1 v.2.2.2) (fun _ => rfl) (fun v _ _ => hc163_0 v.1 v.2.1 v.2.2.1 v.2.2.2) (L := fun k v => L163_0 k v.1 v.2.1 v.2.2.1 v.2.2.2) (fun _ => rfl) (fun _ _ => rfl) (v := (v0, v1, v2, v3)) (d := (default, default, default, default)) hs h hl
  · simp at h
def lq163x0 (n : Nat) : Lq := fun live σ => if live = [0, 3, 4, 5] then lq163_0 n σ else none
def g163_0 (x0 : Int) : Int := IntKind.wrap IntKind.i64 ((0 : Int) - IntKind.wrap IntKind.i64 (↑(BitVec.toNat (BitVec.ofInt (64 : Nat) (Int.fdiv x0 (1 : Int)) &&& BitVec.ofInt (64 : Nat) (1 : Int))) : Int))
def g163_1 (x0 : Int) : Int := IntKind.wrap IntKind.i64 (IntKind.wrap IntKind.i64 (↑(BitVec.toNat (BitVec.ofInt (64 : Nat) (Int.fdiv x0 (1 : Int)) &&& BitVec.ofInt (64 : Nat) (1 : Int))) : Int) - IntKind.wrap IntKind.i64 (↑(BitVec.toNat (BitVec.ofInt (64 : Nat) (Int.fdiv x0 (2 : Int)) &&& BitVec.ofInt (64 : Nat) (1 : Int))) : Int))
def g163_2 (x0 : Int) : Int := IntKind.wrap IntKind.i64 (IntKind.wrap IntKind.i64 (↑(BitVec.toNat (BitVec.ofInt (64 : Nat) (Int.fdiv x0 (2 : Int)) &&& BitVec.ofInt (64 : Nat) (1 : Int))) : Int) - IntKind.wrap IntKind.i64 (↑(BitVec.toNat (BitVec.ofInt (64 : Nat) (Int.fdiv x0 (4 : Int)) &&& BitVec.ofInt (64 : Nat) (1 : Int))) : Int))
def g163_3 (x0 : Int) : Int := IntKind.wrap IntKind.i64 (IntKind.wrap IntKind.i64 (↑(BitVec.toNat (BitVec.ofInt (64 : Nat) (Int.fdiv x0 (4 : Int)) &&& BitVec.ofInt (64 : Nat) (1 : Int))) : Int) - IntKind.wrap IntKind.i64 (↑(BitVec.toNat (BitVec.ofInt (64 : Nat) (Int.fdiv x0 (8 : Int)) &&& BitVec.ofInt (64 : Nat) (1 : Int))) : Int))
def g163_4 (x0 : Int) : Int := IntKind.wrap IntKind.i64 (IntKind.wrap IntKind.i64 (↑(BitVec.toNat (BitVec.ofInt (64 : Nat) (Int.fdiv x0 (8 : Int)) &&& BitVec.ofInt (64 : Nat) (1 : Int))) : Int) - IntKind.wrap IntKind.i64 (↑(BitVec.toNat (BitVec.ofInt (64 : Nat) (Int.fdiv x0 (16 : Int)) &&& BitVec.ofInt (64 : Nat) (1 : Int))) : Int))
def g163_5 (x0 : Int) : Int := IntKind.wrap IntKind.i64 (IntKind.wrap IntKind.i64 (↑(BitVec.toNat (BitVec.ofInt (64 : Nat) (Int.fdiv x0 (16 : Int)) &&& BitVec.ofInt (64 : Nat) (1 : Int))) : Int) - IntKind.wrap IntKind.i64 (↑(BitVec.toNat (BitVec.ofInt (64 : Nat) (Int.fdiv x0 (32 : Int)) &&& BitVec.ofInt (64 : Nat) (1 : Int))) : Int))
def g163_6 (x0 : Int) : Int := IntKind.wrap IntKind.i64 (IntKind.wrap IntKind.i64 (↑(BitVec.toNat (BitVec.ofInt (64 : Nat) (Int.fdiv x0 (32 : Int)) &&& BitVec.ofInt (64 : Nat) (1 : Int))) : Int) - IntKind.wrap IntKind.i64 (↑(BitVec.toNat (BitVec.ofInt (64 : Nat) (Int.fdiv x0 (64 : Int)) &&& BitVec.ofInt (64 : Nat) (1 : Int))) : Int))
def g163_7 (x0 : Int) : Int := IntKind.wrap IntKind.i64 (IntKind.wrap IntKind.i64 (↑(BitVec.toNat (BitVec.ofInt (64 : Nat) (Int.fdiv x0 (64 : Int)) &&& BitVec.ofInt (64 : Nat) (1 : Int))) : Int) - IntKind.wrap IntKind.i64 (↑(BitVec.toNat (BitVec.ofInt (64 : Nat) (Int.fdiv x0 (128 : Int)) &&& BitVec.ofInt (64 : Nat) (1 : Int))) : Int))
def g163_8 (x0 : Int) : Int := IntKind.wrap IntKind.i64 (IntKind.wrap IntKind.i64 (↑(BitVec.toNat (BitVec.ofInt (64 : Nat) (Int.fdiv x0 (128 : Int)) &&& BitVec.ofInt (64 : Nat) (1 : Int))) : Int) - IntKind.wrap IntKind.i64 (↑(BitVec.toNat (BitVec.ofInt (64 : Nat) (Int.fdiv x0 (256 : Int)) &&& BitVec.ofInt (64 : Nat) (1 : Int))) : Int))
def g163_9 (x0 : Int) : Int := IntKind.wrap IntKind.i64 (IntKind.wrap IntKind.i64 (↑(BitVec.toNat (BitVec.ofInt (64 : Nat) (Int.fdiv x0 (256 : Int)) &&& BitVec.ofInt (64 : Nat) (1 : Int))) : Int) - IntKind.wrap IntKind.i64 (↑(BitVec.toNat (BitVec.ofInt (64 : Nat) (Int.fdiv x0 (512 : Int)) &&& BitVec.ofInt (64 : Nat) (1 : Int))) : Int))
def g163_10 (x0 : Int) : Int := IntKind.wrap IntKind.i64 (IntKind.wrap IntKind.i64 (↑(BitVec.toNat (BitVec.ofInt (64 : Nat) (Int.fdiv x0 (512 : Int)) &&& BitVec.ofInt (64 : Nat) (1 : Int))) : Int) - IntKind.wrap IntKind.i64 (↑(BitVec.toNat (BitVec.ofInt (64 : Nat) (Int.fdiv x0 (1024 : Int)) &&& BitVec.ofInt (64 : Nat) (1 : Int))) : Int))
def g163_11 (x0 : Int) : Int := IntKind.wrap IntKind.i64 (IntKind.wrap IntKind.i64 (↑(BitVec.toNat (BitVec.ofInt (64 : Nat) (Int.fdiv x0 (1024 : Int)) &&& BitVec.ofInt (64 : Nat) (1 : Int))) : Int) - IntKind.wrap IntKind.i64 (↑(BitVec.toNat (BitVec.ofInt (64 : Nat) (Int.fdiv x0 (2048 : Int)) &&& BitVec.ofInt (64 : Nat) (1 : Int))) : Int))
def g163_12 (x0 : Int) : Int := IntKind.wrap IntKind.i64 (IntKind.wrap IntKind.i64 (↑(BitVec.toNat (BitVec.ofInt (64 : Nat) (Int.fdiv x0 (2048 : Int)) &&& BitVec.ofInt (64 : Nat) (1 : Int))) : Int) - IntKind.wrap IntKind.i64 (↑(BitVec.toNat (BitVec.ofInt (64 : Nat) (Int.fdiv x0 (4096 : Int)) &&& BitVec.ofInt (64 : Nat) (1 : Int))) : Int))
def g163_13 (x0 : Int) : Int := IntKind.wrap IntKind.i64 (IntKind.wrap IntKind.i64 (↑(BitVec.toNat (BitVec.ofInt (64 : Nat) (Int.fdiv x0 (4096 : Int)) &&& BitVec.ofInt (64 : Nat) (1 : Int))) : Int) - IntKind.wrap IntKind.i64 (↑(BitVec.toNat (BitVec.ofInt (64 : Nat) (Int.fdiv x0 (8192 : Int)) &&& BitVec.ofInt (64 : Nat) (1 : Int))) : Int))
def g163_14 (x0 : Int) : Int := IntKind.wrap IntKind.i64 (IntKind.wrap IntKind.i64 (↑(BitVec.toNat (BitVec.ofInt (64 : Nat) (Int.fdiv x0 (8192 : Int)) &&& BitVec.ofInt (64 : Nat) (1 : Int))) : Int) - IntKind.wrap IntKind.i64 (↑(BitVec.toNat (BitVec.ofInt (64 : Nat) (Int.fdiv x0 (16384 : Int)) &&& BitVec.ofInt (64 : Nat) (1 : Int))) : Int))
def g163_15 (x0 : Int) : Int := IntKind.wrap IntKind.i64 (IntKind.wrap IntKind.i64 (↑(BitVec.toNat (BitVec.ofInt (64 : Nat) (Int.fdiv x0 (16384 : Int)) &&& BitVec.ofInt (64 : Nat) (1 : Int))) : Int) - IntKind.wrap IntKind.i64 (↑(BitVec.toNat (BitVec.ofInt (64 : Nat) (Int.fdiv x0 (32768 : Int)) &&& BitVec.ofInt (64 : Nat) (1 : Int))) : Int))
theorem n163_0 (x0 : Int) : ((16 : Nat)) = List.length [[T.lit (Value.int IntKind.i64 (g163_0 x0))], [T.lit (Value.int IntKind.i64 (g163_1 x0))], [T.lit (Value.int IntKind.i64 (g163_2 x0))], [T.lit (Value.int IntKind.i64 (g163_3 x0))], [T.lit (Value.int IntKind.i64 (g163_4 x0))], [T.lit (Value.int IntKind.i64 (g163_5 x0))], [T.lit (Value.int IntKind.i64 (g163_6 x0))], [T.lit (Value.int IntKind.i64 (g163_7 x0))], [T.lit (Value.int IntKind.i64 (g163_8 x0))], [T.lit (Value.int IntKind.i64 (g163_9 x0))], [T.lit (Value.int IntKind.i64 (g163_10 x0))], [T.lit (Value.int IntKind.i64 (g163_11 x0))], [T.lit (Value.int IntKind.i64 (g163_12 x0))], [T.lit (Value.int IntKind.i64 (g163_13 x0))], [T.lit (Value.int IntKind.i64 (g163_14 x0))], [T.lit (Value.int IntKind.i64 (g163_15 x0))]] := by simp only [g163_0, g163_1, g163_2, g163_3, g163_4, g163_5, g163_6, g163_7, g163_8, g163_9, g163_10, g163_11, g163_12, g163_13, g163_14, g163_15, len_cond, List.length_nil, ri_len, List.length_cons, List.drop_zero, List.take_length, Nat.reduceAdd, Bool.cond_self]
theorem k163 (x0 : Int) (h : (true) = true) : (decide ((0 : Nat) + List.length (w163_0_0 (70 : Nat) [] x0 (0 : Int) (0 : Int)) ≤ List.length (w163_0_0 (70 : Nat) [] x0 (0 : Int) (0 : Int))) && true && (decide (List.length (w163_0_0 (70 : Nat) [] x0 (0 : Int) (0 : Int)) = List.length (w163_0_0 (70 : Nat) [] x0 (0 : Int) (0 : Int))) && true)) = true := by
  simp only [Bool.and_true, Bool.true_and, Bool.or_true, Bool.true_or, Bool.or_false, Bool.false_or, Bool.and_self, Bool.cond_self, Bool.not_true, Bool.not_false, Bool.false_and, Bool.and_false, u64_dec, Nat.zero_add, Nat.le_refl, decide_true, eq_self, List.drop_zero, List.take_length]
theorem d163 (x0 : Int) : fnL Q162 [] [] (lq163x0 70) 70 F163 [.one (.lit (.int .i64 x0))] [] = some ((SV.one (T.sl (0 : Nat) (0 : Nat) (16 : Nat)), [Blk.lst (1 : Nat) [[T.lit (Value.int IntKind.i64 (g163_0 x0))], [T.lit (Value.int IntKind.i64 (g163_1 x0))], [T.lit (Value.int IntKind.i64 (g163_2 x0))], [T.lit (Value.int IntKind.i64 (g163_3 x0))], [T.lit (Value.int IntKind.i64 (g163_4 x0))], [T.lit (Value.int IntKind.i64 (g163_5 x0))], [T.lit (Value.int IntKind.i64 (g163_6 x0))], [T.lit (Value.int IntKind.i64 (g163_7 x0))], [T.lit (Value.int IntKind.i64 (g163_8 x0))], [T.lit (Value.int IntKind.i64 (g163_9 x0))], [T.lit (Value.int IntKind.i64 (g163_10 x0))], [T.lit (Value.int IntKind.i64 (g163_11 x0))], [T.lit (Value.int IntKind.i64 (g163_12 x0))], [T.lit (Value.int IntKind.i64 (g163_13 x0))], [T.lit (Value.int IntKind.i64 (g163_14 x0))], [T.lit (Value.int IntKind.i64 (g163_15 x0))]]]), decide ((0 : Nat) + List.length (w163_0_0 (70 : Nat) [] x0 (0 : Int) (0 : Int)) ≤ List.length (w163_0_0 (70 : Nat) [] x0 (0 : Int) (0 : Int))) && true && (decide (List.length (w163_0_0 (70 : Nat) [] x0 (0 : Int) (0 : Int)) = List.length (w163_0_0 (70 : Nat) [] x0 (0 : Int) (0 : Int))) && true)) := by kernel_rfl
theorem e163 (x0 : Int) : fnL Q162 [] [] (lq163x0 70) 70 F163 [.one (.lit (.int .i64 x0))] [] = some ((SV.one (T.sl (0 : Nat) (0 : Nat) (List.length [[T.lit (Value.int IntKind.i64 (g163_0 x0))], [T.lit (Value.int IntKind.i64 (g163_1 x0))], [T.lit (Value.int IntKind.i64 (g163_2 x0))], [T.lit (Value.int IntKind.i64 (g163_3 x0))], [T.lit (Value.int IntKind.i64 (g163_4 x0))], [T.lit (Value.int IntKind.i64 (g163_5 x0))], [T.lit (Value.int IntKind.i64 (g163_6 x0))], [T.lit (Value.int IntKind.i64 (g163_7 x0))], [T.lit (Value.int IntKind.i64 (g163_8 x0))], [T.lit (Value.int IntKind.i64 (g163_9 x0))], [T.lit (Value.int IntKind.i64 (g163_10 x0))], [T.lit (Value.int IntKind.i64 (g163_11 x0))], [T.lit (Value.int IntKind.i64 (g163_12 x0))], [T.lit (Value.int IntKind.i64 (g163_13 x0))], [T.lit (Value.int IntKind.i64 (g163_14 x0))], [T.lit (Value.int IntKind.i64 (g163_15 x0))]])), [Blk.lst (1 : Nat) [[T.lit (Value.int IntKind.i64 (g163_0 x0))], [T.lit (Value.int IntKind.i64 (g163_1 x0))], [T.lit (Value.int IntKind.i64 (g163_2 x0))], [T.lit (Value.int IntKind.i64 (g163_3 x0))], [T.lit (Value.int IntKind.i64 (g163_4 x0))], [T.lit (Value.int IntKind.i64 (g163_5 x0))], [T.lit (Value.int IntKind.i64 (g163_6 x0))], [T.lit (Value.int IntKind.i64 (g163_7 x0))], [T.lit (Value.int IntKind.i64 (g163_8 x0))], [T.lit (Value.int IntKind.i64 (g163_9 x0))], [T.lit (Value.int IntKind.i64 (g163_10 x0))], [T.lit (Value.int IntKind.i64 (g163_11 x0))], [T.lit (Value.int IntKind.i64 (g163_12 x0))], [T.lit (Value.int IntKind.i64 (g163_13 x0))], [T.lit (Value.int IntKind.i64 (g163_14 x0))], [T.lit (Value.int IntKind.i64 (g163_15 x0))]]]), decide ((0 : Nat) + List.length (w163_0_0 (70 : Nat) [] x0 (0 : Int) (0 : Int)) ≤ List.length (w163_0_0 (70 : Nat) [] x0 (0 : Int) (0 : Int))) && true && (decide (List.length (w163_0_0 (70 : Nat) [] x0 (0 : Int) (0 : Int)) = List.length (w163_0_0 (70 : Nat) [] x0 (0 : Int) (0 : Int))) && true)) := by rw [d163, n163_0 x0]
def q163 : List SV → List Blk → Option ((SV × List Blk) × Bool)
  | [.one (.lit (.int .i64 x0))], [] => some ((SV.one (T.sl (0 : Nat) (0 : Nat) (List.length [[T.lit (Value.int IntKind.i64 (g163_0 x0))], [T.lit (Value.int IntKind.i64 (g163_1 x0))], [T.lit (Value.int IntKind.i64 (g163_2 x0))], [T.lit (Value.int IntKind.i64 (g163_3 x0))], [T.lit (Value.int IntKind.i64 (g163_4 x0))], [T.lit (Value.int IntKind.i64 (g163_5 x0))], [T.lit (Value.int IntKind.i64 (g163_6 x0))], [T.lit (Value.int IntKind.i64 (g163_7 x0))], [T.lit (Value.int IntKind.i64 (g163_8 x0))], [T.lit (Value.int IntKind.i64 (g163_9 x0))], [T.lit (Value.int IntKind.i64 (g163_10 x0))], [T.lit (Value.int IntKind.i64 (g163_11 x0))], [T.lit (Value.int IntKind.i64 (g163_12 x0))], [T.lit (Value.int IntKind.i64 (g163_13 x0))], [T.lit (Value.int IntKind.i64 (g163_14 x0))], [T.lit (Value.int IntKind.i64 (g163_15 x0))]])), [Blk.lst (1 : Nat) [[T.lit (Value.int IntKind.i64 (g163_0 x0))], [T.lit (Value.int IntKind.i64 (g163_1 x0))], [T.lit (Value.int IntKind.i64 (g163_2 x0))], [T.lit (Value.int IntKind.i64 (g163_3 x0))], [T.lit (Value.int IntKind.i64 (g163_4 x0))], [T.lit (Value.int IntKind.i64 (g163_5 x0))], [T.lit (Value.int IntKind.i64 (g163_6 x0))], [T.lit (Value.int IntKind.i64 (g163_7 x0))], [T.lit (Value.int IntKind.i64 (g163_8 x0))], [T.lit (Value.int IntKind.i64 (g163_9 x0))], [T.lit (Value.int IntKind.i64 (g163_10 x0))], [T.lit (Value.int IntKind.i64 (g163_11 x0))], [T.lit (Value.int IntKind.i64 (g163_12 x0))], [T.lit (Value.int IntKind.i64 (g163_13 x0))], [T.lit (Value.int IntKind.i64 (g163_14 x0))], [T.lit (Value.int IntKind.i64 (g163_15 x0))]]]), true)
  | _, _ => none
theorem t163 (args : List SV) (hp : List Blk) (r : SV × List Blk) (h : q163 args hp = some (r, true)) : R 163 args hp = some r := by
  unfold q163 at h
  split at h
  · rename_i x0; exact R_fn at163 70 (fnL_run Q162_ok (by simp only [F163, F163b0, Loops, true_and, and_true]; first | trivial | (repeat' apply And.intro) <;> first | trivial  | exact fun σ σr o h hl => lt163_0 _ σ σr o h hl) (okTrans (e163 x0) (k163 x0) h))
  · simp at h
noncomputable def Q163 : Qt := qcons 163 q163 Q162
theorem Q163_ok : QOk R Q163 := qcons_ok t163 Q162_ok
/-! spec.l1Top -/
def g220_0 (x0 : Int) : Int := IntKind.wrap IntKind.i64 ((1 : Int) * (2 : Int) ^ min (Int.toNat (IntKind.wrap IntKind.u64 (IntKind.wrap IntKind.i64 ((8 : Int) * x0)))) (64 : Nat))
theorem k220 (x0 : Int) (h : (true) = true) : (decide ((0 : Int) ≤ IntKind.wrap IntKind.u64 (IntKind.wrap IntKind.i64 ((8 : Int) * x0))) && true && true && true) = true := by
  simp only [Bool.and_true, Bool.true_and, Bool.or_true, Bool.true_or, Bool.or_false, Bool.false_or, Bool.and_self, Bool.cond_self, Bool.not_true, Bool.not_false, Bool.false_and, Bool.and_false, u64_dec, Nat.zero_add, Nat.le_refl, decide_true, eq_self, List.drop_zero, List.take_length]
theorem e220 (x0 : Int) : fnT Q163 [] [] 0 F220 [.one (.lit (.int .i64 x0))] [] = some ((SV.one (T.lit (Value.int IntKind.i64 (g220_0 x0))), []), decide ((0 : Int) ≤ IntKind.wrap IntKind.u64 (IntKind.wrap IntKind.i64 ((8 : Int) * x0))) && true && true && true) := by kernel_rfl
def q220 : List SV → List Blk → Option ((SV × List Blk) × Bool)
  | [.one (.lit (.int .i64 x0))], [] => some ((SV.one (T.lit (Value.int IntKind.i64 (g220_0 x0))), []), true)
  | _, _ => none
theorem t220 (args : List SV) (hp : List Blk) (r : SV × List Blk) (h : q220 args hp = some (r, true)) : R 220 args hp = some r := by
  unfold q220 at h
  split at h
  · rename_i x0; exact R_fn at220 0 (fnT_run Q163_ok (okTrans (e220 x0) (k220 x0) h))
  · simp at h
noncomputable def Q220 : Qt := qcons 220 q220 Q163
theorem Q220_ok : QOk R Q220 := qcons_ok t220 Q163_ok
/-! spec.l1Signed -/
def g182_0 (x0 : Int) (x1 : Int) : Int := bif decide (x1 ≥ IntKind.wrap IntKind.i64 (Int.tdiv (g220_0 x0) (2 : Int))) then IntKind.wrap IntKind.i64 (x1 - g220_0 x0) else x1
theorem e182 (x0 : Int) (x1 : Int) : fnT Q220 [] [] 0 F182 [.one (.lit (.int .i64 x0)), .one (.lit (.int .i64 x1))] [] = some ((SV.one (T.lit (Value.int IntKind.i64 (g182_0 x0 x1))), []), true) := by kernel_rfl
def q182 : List SV → List Blk → Option ((SV × List Blk) × Bool)
  | [.one (.lit (.int .i64 x0)), .one (.lit (.int .i64 x1))], [] => some ((SV.one (T.lit (Value.int IntKind.i64 (g182_0 x0 x1))), []), true)
  | _, _ => none
theorem t182 (args : List SV) (hp : List Blk) (r : SV × List Blk) (h : q182 args hp = some (r, true)) : R 182 args hp = some r := by
  unfold q182 at h
  split at h
  · rename_i x0 x1; exact R_fn at182 0 (fnT_run Q220_ok ((e182 x0 x1).trans h))
  · simp at h
noncomputable def Q182 : Qt := qcons 182 q182 Q220
theorem Q182_ok : QOk R Q182 := qcons_ok t182 Q220_ok
/-! spec.l9Signed -/
def g164_0 (x0 : Int) : Int := g182_0 (2 : Int) x0
theorem e164 (x0 : Int) : fnT Q182 [] [] 0 F164 [.one (.lit (.int .i64 x0))] [] = some ((SV.one (T.lit (Value.int IntKind.i64 (g164_0 x0))), []), true) := by kernel_rfl
def q164 : List SV → List Blk → Option ((SV × List Blk) × Bool)
  | [.one (.lit (.int .i64 x0))], [] => some ((SV.one (T.lit (Value.int IntKind.i64 (g164_0 x0))), []), true)
  | _, _ => none
theorem t164 (args : List SV) (hp : List Blk) (r : SV × List Blk) (h : q164 args hp = some (r, true)) : R 164 args hp = some r := by
  unfold q164 at h
  split at h
  · rename_i x0; exact R_fn at164 0 (fnT_run Q182_ok ((e164 x0).trans h))
  · simp at h
noncomputable def Q164 : Qt := qcons 164 q164 Q182
theorem Q164_ok : QOk R Q164 := qcons_ok t164 Q182_ok
/-! spec.l9Two -/
def g165_0 (x0 : Int) : Int := IntKind.wrap IntKind.i64 (↑(BitVec.toNat (BitVec.ofInt (64 : Nat) (Int.fdiv x0 (65536 : Int)) &&& BitVec.ofInt (64 : Nat) (65535 : Int))) : Int)
def g165_1 (x0 : Int) : Int := IntKind.wrap IntKind.i64 (↑(BitVec.toNat (BitVec.ofInt (64 : Nat) x0 &&& BitVec.ofInt (64 : Nat) (65535 : Int))) : Int)
theorem e165 (x0 : Int) : fnT Q164 [] [] 0 F165 [.one (.lit (.int .i64 x0))] [] = some ((SV.tup [SV.one (T.lit (Value.int IntKind.i64 (g165_0 x0))), SV.one (T.lit (Value.int IntKind.i64 (g165_1 x0)))], []), true) := by kernel_rfl
def q165 : List SV → List Blk → Option ((SV × List Blk) × Bool)
  | [.one (.lit (.int .i64 x0))], [] => some ((SV.tup [SV.one (T.lit (Value.int IntKind.i64 (g165_0 x0))), SV.one (T.lit (Value.int IntKind.i64 (g165_1 x0)))], []), true)
  | _, _ => none
theorem t165 (args : List SV) (hp : List Blk) (r : SV × List Blk) (h : q165 args hp = some (r, true)) : R 165 args hp = some r := by
  unfold q165 at h
  split at h
  · rename_i x0; exact R_fn at165 0 (fnT_run Q164_ok ((e165 x0).trans h))
  · simp at h
noncomputable def Q165 : Qt := qcons 165 q165 Q164
theorem Q165_ok : QOk R Q165 := qcons_ok t165 Q164_ok
/-! spec.MulBooth -/
def s39_0 (v0 : List Row) (v1 : Int) (v2 : Int) (v3 : Int) (v4 : Int) : St := ⟨[(0, .one (.lit (.int .i64 v1))), (7, .one (.lit (.int .i64 v2))), (21, .one (.sl 0 0 (List.length v0))), (22, .one (.lit (.int .i64 v3))), (23, .one (.lit (.int .i64 v4)))], [.lst 1 v0]⟩
def x39_0 (v0 : List Row) (v1 : Int) (v2 : Int) (v3 : Int) (v4 : Int) : List (Ex × Bool × Tr) := [(Ex.brk (0 : Nat), !decide (v4 < v3), Tr.leaf { sl := [((0 : Nat), SV.one (T.lit (Value.int IntKind.i64 v1))), ((7 : Nat), SV.one (T.lit (Value.int IntKind.i64 v2))), ((21 : Nat), SV.one (T.sl (0 : Nat) (0 : Nat) (List.length v0))), ((22 : Nat), SV.one (T.lit (Value.int IntKind.i64 v3))), ((23 : Nat), SV.one (T.lit (Value.int IntKind.i64 v4))), ((24 : Nat), SV.one (T.lit (Value.bool (decide (v4 < v3)))))], hp := [Blk.lst (1 : Nat) v0] })]
def u39_0 (v0 : List Row) (v1 : Int) (v2 : Int) (v3 : Int) (v4 : Int) : St := { sl := [((0 : Nat), SV.one (T.lit (Value.int IntKind.i64 v1))), ((7 : Nat), SV.one (T.lit (Value.int IntKind.i64 (IntKind.wrap IntKind.i64 (v2 + IntKind.wrap IntKind.i64 (IntKind.wrap IntKind.i64 (intAt v0 ((0 : Nat) + Int.toNat v4) (0 : Nat) * g164_0 v1) * (2 : Int) ^ min (Int.toNat (IntKind.wrap IntKind.u64 v4)) (64 : Nat))))))), ((21 : Nat), SV.one (T.sl (0 : Nat) (0 : Nat) (List.length v0))), ((22 : Nat), SV.one (T.lit (Value.int IntKind.i64 v3))), ((23 : Nat), SV.one (T.lit (Value.int IntKind.i64 (IntKind.wrap IntKind.i64 (v4 + (1 : Int))))))], hp := [Blk.lst (1 : Nat) v0] }
def y39_0 (v0 : List Row) (v1 : Int) (v2 : Int) (v3 : Int) (v4 : Int) : Bool := decide ((0 : Int) ≤ v4) && decide (v4 < (↑(List.length v0) : Int)) && hasRow [Kd.int IntKind.i64] v0 ((0 : Nat) + Int.toNat v4) (0 : Nat) || !decide (v4 < v3)
theorem hy39_0 (v0 : List Row) (v1 : Int) (v2 : Int) (v3 : Int) (v4 : Int) : (decide ((0 : Int) ≤ v4) && decide (v4 < (↑(List.length v0) : Int)) && (hasRow [Kd.int IntKind.i64] v0 ((0 : Nat) + Int.toNat v4) (0 : Nat) && true) && (decide ((0 : Int) ≤ IntKind.wrap IntKind.u64 v4) && true) && true || !decide (v4 < v3)) = y39_0 v0 v1 v2 v3 v4 := by simp only [y39_0, List.drop_zero, List.take_length, Nat.zero_add, Nat.le_refl, Int.le_refl, decide_true, eq_self, ri_len, List.length_cons, List.length_nil, List.length_append, Nat.reduceAdd, u64_dec, Bool.and_self, Bool.true_and, Bool.and_true, Bool.or_true, Bool.true_or, Bool.or_false, Bool.false_or, Bool.cond_self, Bool.not_true, Bool.not_false]
def z39_0 (v0 : List Row) (v1 : Int) (v2 : Int) (v3 : Int) (v4 : Int) : Bool := (!decide (v4 < v3) || false)
def L39_0 : Nat → List Row → Int → Int → Int → Int → Option (List Row × Int × Int × Int × Int)
  | 0, _, _, _, _, _ => none
  | k + 1, v0, v1, v2, v3, v4 => bif y39_0 v0 v1 v2 v3 v4 then bif z39_0 v0 v1 v2 v3 v4 then some (v0, v1, v2, v3, v4) else L39_0 k (v0) (v1) (IntKind.wrap IntKind.i64 (v2 + IntKind.wrap IntKind.i64 (IntKind.wrap IntKind.i64 (intAt v0 ((0 : Nat) + Int.toNat v4) (0 : Nat) * g164_0 v1) * (2 : Int) ^ min (Int.toNat (IntKind.wrap IntKind.u64 v4)) (64 : Nat)))) (v3) (IntKind.wrap IntKind.i64 (v4 + (1 : Int))) else none
theorem hb39_0 (n : Nat) (v0 : List Row) (v1 : Int) (v2 : Int) (v3 : Int) (v4 : Int) : Go.Zq.evt Q165 [(26, [.int .i64]), (27, [.int .i64])] [] lqN 0 n F39b0 (s39_0 v0 v1 v2 v3 v4) = some (⟨x39_0 v0 v1 v2 v3 v4, some (.leaf (u39_0 v0 v1 v2 v3 v4))⟩, y39_0 v0 v1 v2 v3 v4) := by
  rw [← hy39_0 v0 v1 v2 v3 v4]
  kernel_rfl
theorem hc39_0 (v0 : List Row) (v1 : Int) (v2 : Int) (v3 : Int) (v4 : Int) : canonS 0 [0, 7, 21, 22, 23] (u39_0 v0 v1 v2 v3 v4) = some (s39_0 (v0) (v1) (IntKind.wrap IntKind.i64 (v2 + IntKind.wrap IntKind.i64 (IntKind.wrap IntKind.i64 (intAt v0 ((0 : Nat) + Int.toNat v4) (0 : Nat) * g164_0 v1) * (2 : Int) ^ min (Int.toNat (IntKind.wrap IntKind.u64 v4)) (64 : Nat)))) (v3) (IntKind.wrap IntKind.i64 (v4 + (1 : Int))), true) := by
  have e : canonS 0 [0, 7, 21, 22, 23] (u39_0 v0 v1 v2 v3 v4) = some ({ sl := [((0 : Nat), SV.one (T.lit (Value.int IntKind.i64 v1))), ((7 : Nat), SV.one (T.lit (Value.int IntKind.i64 (IntKind.wrap IntKind.i64 (v2 + IntKind.wrap IntKind.i64 (IntKind.wrap IntKind.i64 (intAt v0 ((0 : Nat) + Int.toNat v4) (0 : Nat) * g164_0 v1) * (2 : Int) ^ min (Int.toNat (IntKind.wrap IntKind.u64 v4)) (64 : Nat))))))), ((21 : Nat), SV.one (T.sl (0 : Nat) (0 : Nat) (List.length v0))), ((22 : Nat), SV.one (T.lit (Value.int IntKind.i64 v3))), ((23 : Nat), SV.one (T.lit (Value.int IntKind.i64 (IntKind.wrap IntKind.i64 (v4 + (1 : Int))))))], hp := [Blk.lst (1 : Nat) (List.take (List.length v0) (List.drop (0 : Nat) v0))] }, decide ((0 : Nat) + List.length v0 ≤ List.length v0) && true && (decide (List.length v0 = List.length v0) && true)) := by kernel_rfl
  rw [e]
  simp only [s39_0, List.drop_zero, List.take_length, Nat.zero_add, Nat.le_refl, decide_true, eq_self, Bool.and_self, Bool.true_and, Bool.and_true]
def w39_0_0 (n : Nat) (v0 : List Row) (v1 : Int) (v2 : Int) (v3 : Int) (v4 : Int) : List Row := ((L39_0 n v0 v1 v2 v3 v4).getD (default, default, default, default, default)).1
def w39_0_1 (n : Nat) (v0 : List Row) (v1 : Int) (v2 : Int) (v3 : Int) (v4 : Int) : Int := ((L39_0 n v0 v1 v2 v3 v4).getD (default, default, default, default, default)).2.1
def w39_0_2 (n : Nat) (v0 : List Row) (v1 : Int) (v2 : Int) (v3 : Int) (v4 : Int) : Int := ((L39_0 n v0 v1 v2 v3 v4).getD (default, default, default, default, default)).2.2.1
def w39_0_3 (n : Nat) (v0 : List Row) (v1 : Int) (v2 : Int) (v3 : Int) (v4 : Int) : Int := ((L39_0 n v0 v1 v2 v3 v4).getD (default, default, default, default, default)).2.2.2.1
def w39_0_4 (n : Nat) (v0 : List Row) (v1 : Int) (v2 : Int) (v3 : Int) (v4 : Int) : Int := ((L39_0 n v0 v1 v2 v3 v4).getD (default, default, default, default, default)).2.2.2.2
def lq39_0 (n : Nat) (σ : St) : Option (O × Bool) :=
  match canonS 0 [0, 7, 21, 22, 23] σ with
  | some (⟨[(0, .one (.lit (.int .i64 v1))), (7, .one (.lit (.int .i64 v2))), (21, .one (.sl 0 0 l0)), (22, .one (.lit (.int .i64 v3))), (23, .one (.lit (.int .i64 v4)))], [.lst 1 v0]⟩, c) => some (⟨x39_0 (w39_0_0 n v0 v1 v2 v3 v4) (w39_0_1 n v0 v1 v2 v3 v4) (w39_0_2 n v0 v1 v2 v3 v4) (w39_0_3 n v0 v1 v2 v3 v4) (w39_0_4 n v0 v1 v2 v3 v4), none⟩, (c && decide (l0 = List.length v0)) && (L39_0 n v0 v1 v2 v3 v4).isSome)
  | _ => none
theorem lt39_0 (n : Nat) : Tells (lq39_0 n) (evc R 0 n (.loop [0, 7, 21, 22, 23] F39b0)) := fun σ σr o h hl => by
  unfold lq39_0 at h
  split at h
  · rename_i v1 v2 l0 v3 v4 v0 c hs
    have hk : (c && decide (l0 = List.length v0)) && (L39_0 n v0 v1 v2 v3 v4).isSome = true := by
      have := congrArg (Option.map (·.2)) h
      simpa using this
    obtain ⟨ho, -⟩ := and_t hk
    obtain ⟨ho, e0⟩ := and_t ho
    have e0 := of_decide_eq_true e0
    subst e0
    simp only [decide_true, Bool.and_true] at h
    exact lq_tells (V := List Row × Int × Int × Int × Int) (f := Go.Zq.evt Q165 [(26, [.int .i64]), (27, [.int .i64])] [] lqN 0 n F39b0) (st := fun v => s39_0 v.1 v.2.1 v.2.2.1 v.2.2.2.1 v.2.2.2.2) (ν := fun v => u39_0 v.1 v.2.1 v.2.2.1 v.2.2.2.1 v.2.2.2.2) (ob := (fun v => ⟨x39_0 v.1 v.2.1 v.2.2.1 v.2.2.2.1 v.2.2.2.2, some (.leaf (u39_0 v.1 v.2.1 v.2.2.1 v.2.2.2.1 v.2.2.2.2))⟩)) (okb := fun v => y39_0 v.1 v.2.1 v.2.2.1 v.2.2.2.1 v.2.2.2.2) (next := fun v => (fun v0 v1 v2 v3 v4 => (v0, v1, IntKind.wrap IntKind.i64 (v2 + IntKind.wrap IntKind.i64 (IntKind.wrap IntKind.i64 (intAt v0 ((0 : Nat) + Int.toNat v4) (0 : Nat) * g164_0 v1) * (2 : Int) ^ min (Int.toNat (IntKind.wrap IntKind.u64 v4)) (64 : Nat))), v3, IntKind.wrap IntKind.i64 (v4 + (1 : Int)))) v.1 v.2.1 v.2.2.1 v.2.2.2.1 v.2.2.2.2)
      (evt_tells Q165_ok (by simp only [F39, F39b0, Loops, and_self, and_true])) (fun v => hb39_0 n v.1 v.2.1 v.2.2.1 v.2.2.2.1 v.2.2.2.2) (fun _ => rfl) (fun v _ _ => hc39_0 v.1 v.2.1 v.2.2.1 v.2.2.2.1 v.2.2.2.2) (L := fun k v => L39_0 k v.1 v.2.1 v.2.2.1 v.2.2.2.1 v.2.2.2.2) (fun _ => rfl) (fun _ _ => rfl) (v := (v0, v1, v2, v3, v4)) (d := (default, default, default, default, default)) hs h hl
  · simp at h
def lq39x0 (n : Nat) : Lq := fun live σ => if live = [0, 7, 21, 22, 23] then lq39_0 n σ else none
def g39_0 (x0 : Int) (x1 : Int) : Int := bif bif !g162_0 x0 then true else !g162_0 x1 then (0 : Int) else g165_0 (w39_0_2 (70 : Nat) (ri [g163_0 x1, g163_1 x1, g163_2 x1, g163_3 x1, g163_4 x1, g163_5 x1, g163_6 x1, g163_7 x1, g163_8 x1, g163_9 x1, g163_10 x1, g163_11 x1, g163_12 x1, g163_13 x1, g163_14 x1, g163_15 x1]) x0 (0 : Int) (↑(16 : Nat) : Int) (0 : Int))
def g39_1 (x0 : Int) (x1 : Int) : Int := bif bif !g162_0 x0 then true else !g162_0 x1 then (0 : Int) else g165_1 (w39_0_2 (70 : Nat) (ri [g163_0 x1, g163_1 x1, g163_2 x1, g163_3 x1, g163_4 x1, g163_5 x1, g163_6 x1, g163_7 x1, g163_8 x1, g163_9 x1, g163_10 x1, g163_11 x1, g163_12 x1, g163_13 x1, g163_14 x1, g163_15 x1]) x0 (0 : Int) (↑(16 : Nat) : Int) (0 : Int))
def r39_2 (x0 : Int) (x1 : Int) : Bool := bif bif !g162_0 x0 then true else !g162_0 x1 then false else true
def g39_2 (x0 : Int) (x1 : Int) : Bool := !bif !g162_0 x0 then true else !g162_0 x1
theorem c39_2 (x0 : Int) (x1 : Int) : r39_2 x0 x1 = g39_2 x0 x1 := by simp only [r39_2, g39_2, Bool.cond_self, bif_tf, bif_ft, Bool.not_not, List.drop_zero, List.take_length]
theorem k39 (x0 : Int) (x1 : Int) (h : (true) = true) : ((decide ((0 : Nat) + (16 : Nat) ≤ (16 : Nat)) && true && (decide ((0 : Nat) + (16 : Nat) ≤ (16 : Nat)) && true && (decide ((16 : Nat) = (16 : Nat)) && true) && decide ((16 : Nat) = (16 : Nat)) && true) && true || bif !g162_0 x0 then true else !g162_0 x1) && true) = true := by
  simp only [Bool.and_true, Bool.true_and, Bool.or_true, Bool.true_or, Bool.or_false, Bool.false_or, Bool.and_self, Bool.cond_self, Bool.not_true, Bool.not_false, Bool.false_and, Bool.and_false, u64_dec, Nat.zero_add, Nat.le_refl, decide_true, eq_self, List.drop_zero, List.take_length]
theorem d39 (x0 : Int) (x1 : Int) : fnL Q165 [(26, [.int .i64]), (27, [.int .i64])] [] (lq39x0 70) 70 F39 [.one (.lit (.int .i64 x0)), .one (.lit (.int .i64 x1))] [] = some ((SV.tup [SV.one (T.lit (Value.int IntKind.i64 (g39_0 x0 x1))), SV.one (T.lit (Value.int IntKind.i64 (g39_1 x0 x1))), SV.one (T.lit (Value.bool (r39_2 x0 x1)))], []), (decide ((0 : Nat) + (16 : Nat) ≤ (16 : Nat)) && true && (decide ((0 : Nat) + (16 : Nat) ≤ (16 : Nat)) && true && (decide ((16 : Nat) = (16 : Nat)) && true) && decide ((16 : Nat) = (16 : Nat)) && true) && true || bif !g162_0 x0 then true else !g162_0 x1) && true) := by kernel_rfl
theorem e39 (x0 : Int) (x1 : Int) : fnL Q165 [(26, [.int .i64]), (27, [.int .i64])] [] (lq39x0 70) 70 F39 [.one (.lit (.int .i64 x0)), .one (.lit (.int .i64 x1))] [] = some ((SV.tup [SV.one (T.lit (Value.int IntKind.i64 (g39_0 x0 x1))), SV.one (T.lit (Value.int IntKind.i64 (g39_1 x0 x1))), SV.one (T.lit (Value.bool (g39_2 x0 x1)))], []), (decide ((0 : Nat) + (16 : Nat) ≤ (16 : Nat)) && true && (decide ((0 : Nat) + (16 : Nat) ≤ (16 : Nat)) && true && (decide ((16 : Nat) = (16 : Nat)) && true) && decide ((16 : Nat) = (16 : Nat)) && true) && true || bif !g162_0 x0 then true else !g162_0 x1) && true) := by rw [d39, c39_2]
def q39 : List SV → List Blk → Option ((SV × List Blk) × Bool)
  | [.one (.lit (.int .i64 x0)), .one (.lit (.int .i64 x1))], [] => some ((SV.tup [SV.one (T.lit (Value.int IntKind.i64 (g39_0 x0 x1))), SV.one (T.lit (Value.int IntKind.i64 (g39_1 x0 x1))), SV.one (T.lit (Value.bool (g39_2 x0 x1)))], []), true)
  | _, _ => none
theorem t39 (args : List SV) (hp : List Blk) (r : SV × List Blk) (h : q39 args hp = some (r, true)) : R 39 args hp = some r := by
  unfold q39 at h
  split at h
  · rename_i x0 x1; exact R_fn at39 70 (fnL_run Q165_ok (by simp only [F39, F39b0, Loops, true_and, and_true]; first | trivial | (repeat' apply And.intro) <;> first | trivial  | exact fun σ σr o h hl => lt39_0 _ σ σr o h hl) (okTrans (e39 x0 x1) (k39 x0 x1) h))
  · simp at h
noncomputable def Q39 : Qt := qcons 39 q39 Q165
theorem Q39_ok : QOk R Q39 := qcons_ok t39 Q165_ok
/-! impl.MulSigned -/
def g40_0 (x0 : Int) (x1 : Int) : Int := bif bif !g160_0 x0 then true else !g160_0 x1 then (0 : Int) else g161_0 (IntKind.wrap IntKind.i64 (g157_0 (2 : Int) x0 * g157_0 (2 : Int) x1))
def g40_1 (x0 : Int) (x1 : Int) : Int := bif bif !g160_0 x0 then true else !g160_0 x1 then (0 : Int) else g161_1 (IntKind.wrap IntKind.i64 (g157_0 (2 : Int) x0 * g157_0 (2 : Int) x1))
def r40_2 (x0 : Int) (x1 : Int) : Bool := bif bif !g160_0 x0 then true else !g160_0 x1 then false else true
def g40_2 (x0 : Int) (x1 : Int) : Bool := !bif !g160_0 x0 then true else !g160_0 x1
theorem c40_2 (x0 : Int) (x1 : Int) : r40_2 x0 x1 = g40_2 x0 x1 := by simp only [r40_2, g40_2, Bool.cond_self, bif_tf, bif_ft, Bool.not_not, List.drop_zero, List.take_length]
theorem d40 (x0 : Int) (x1 : Int) : fnT Q39 [] [] 0 F40 [.one (.lit (.int .i64 x0)), .one (.lit (.int .i64 x1))] [] = some ((SV.tup [SV.one (T.lit (Value.int IntKind.i64 (g40_0 x0 x1))), SV.one (T.lit (Value.int IntKind.i64 (g40_1 x0 x1))), SV.one (T.lit (Value.bool (r40_2 x0 x1)))], []), true) := by kernel_rfl
theorem e40 (x0 : Int) (x1 : Int) : fnT Q39 [] [] 0 F40 [.one (.lit (.int .i64 x0)), .one (.lit (.int .i64 x1))] [] = some ((SV.tup [SV.one (T.lit (Value.int IntKind.i64 (g40_0 x0 x1))), SV.one (T.lit (Value.int IntKind.i64 (g40_1 x0 x1))), SV.one (T.lit (Value.bool (g40_2 x0 x1)))], []), true) := by rw [d40, c40_2]
def q40 : List SV → List Blk → Option ((SV × List Blk) × Bool)
  | [.one (.lit (.int .i64 x0)), .one (.lit (.int .i64 x1))], [] => some ((SV.tup [SV.one (T.lit (Value.int IntKind.i64 (g40_0 x0 x1))), SV.one (T.lit (Value.int IntKind.i64 (g40_1 x0 x1))), SV.one (T.lit (Value.bool (g40_2 x0 x1)))], []), true)
  | _, _ => none
theorem t40 (args : List SV) (hp : List Blk) (r : SV × List Blk) (h : q40 args hp = some (r, true)) : R 40 args hp = some r := by
  unfold q40 at h
  split at h
  · rename_i x0 x1; exact R_fn at40 0 (fnT_run Q39_ok ((e40 x0 x1).trans h))
  · simp at h
noncomputable def Q40 : Qt := qcons 40 q40 Q39
theorem Q40_ok : QOk R Q40 := qcons_ok t40 Q39_ok
/-! spec.MulSigned -/
def g41_0 (x0 : Int) (x1 : Int) : Int := bif bif !g162_0 x0 then true else !g162_0 x1 then (0 : Int) else g165_0 (IntKind.wrap IntKind.i64 (g164_0 x0 * g164_0 x1))
def g41_1 (x0 : Int) (x1 : Int) : Int := bif bif !g162_0 x0 then true else !g162_0 x1 then (0 : Int) else g165_1 (IntKind.wrap IntKind.i64 (g164_0 x0 * g164_0 x1))
def r41_2 (x0 : Int) (x1 : Int) : Bool := bif bif !g162_0 x0 then true else !g162_0 x1 then false else true
def g41_2 (x0 : Int) (x1 : Int) : Bool := !bif !g162_0 x0 then true else !g162_0 x1
theorem c41_2 (x0 : Int) (x1 : Int) : r41_2 x0 x1 = g41_2 x0 x1 := by simp only [r41_2, g41_2, Bool.cond_self, bif_tf, bif_ft, Bool.not_not, List.drop_zero, List.take_length]
theorem d41 (x0 : Int) (x1 : Int) : fnT Q40 [] [] 0 F41 [.one (.lit (.int .i64 x0)), .one (.lit (.int .i64 x1))] [] = some ((SV.tup [SV.one (T.lit (Value.int IntKind.i64 (g41_0 x0 x1))), SV.one (T.lit (Value.int IntKind.i64 (g41_1 x0 x1))), SV.one (T.lit (Value.bool (r41_2 x0 x1)))], []), true) := by kernel_rfl
theorem e41 (x0 : Int) (x1 : Int) : fnT Q40 [] [] 0 F41 [.one (.lit (.int .i64 x0)), .one (.lit (.int .i64 x1))] [] = some ((SV.tup [SV.one (T.lit (Value.int IntKind.i64 (g41_0 x0 x1))), SV.one (T.lit (Value.int IntKind.i64 (g41_1 x0 x1))), SV.one (T.lit (Value.bool (g41_2 x0 x1)))], []), true) := by rw [d41, c41_2]
def q41 : List SV → List Blk → Option ((SV × List Blk) × Bool)
  | [.one (.lit (.int .i64 x0)), .one (.lit (.int .i64 x1))], [] => some ((SV.tup [SV.one (T.lit (Value.int IntKind.i64 (g41_0 x0 x1))), SV.one (T.lit (Value.int IntKind.i64 (g41_1 x0 x1))), SV.one (T.lit (Value.bool (g41_2 x0 x1)))], []), true)
  | _, _ => none
theorem t41 (args : List SV) (hp : List Blk) (r : SV × List Blk) (h : q41 args hp = some (r, true)) : R 41 args hp = some r := by
  unfold q41 at h
  split at h
  · rename_i x0 x1; exact R_fn at41 0 (fnT_run Q40_ok ((e41 x0 x1).trans h))
  · simp at h
noncomputable def Q41 : Qt := qcons 41 q41 Q40
theorem Q41_ok : QOk R Q41 := qcons_ok t41 Q40_ok
/-! impl.MulWords -/
def g42_0 (x0 : Int) (x1 : Int) : Int := bif bif !g160_0 x0 then true else !g160_0 x1 then (0 : Int) else g161_0 (IntKind.wrap IntKind.i64 (x0 * x1))
def g42_1 (x0 : Int) (x1 : Int) : Int := bif bif !g160_0 x0 then true else !g160_0 x1 then (0 : Int) else g161_1 (IntKind.wrap IntKind.i64 (x0 * x1))
def r42_2 (x0 : Int) (x1 : Int) : Bool := bif bif !g160_0 x0 then true else !g160_0 x1 then false else true
def g42_2 (x0 : Int) (x1 : Int) : Bool := !bif !g160_0 x0 then true else !g160_0 x1
theorem c42_2 (x0 : Int) (x1 : Int) : r42_2 x0 x1 = g42_2 x0 x1 := by simp only [r42_2, g42_2, Bool.cond_self, bif_tf, bif_ft, Bool.not_not, List.drop_zero, List.take_length]
theorem d42 (x0 : Int) (x1 : Int) : fnT Q41 [] [] 0 F42 [.one (.lit (.int .i64 x0)), .one (.lit (.int .i64 x1))] [] = some ((SV.tup [SV.one (T.lit (Value.int IntKind.i64 (g42_0 x0 x1))), SV.one (T.lit (Value.int IntKind.i64 (g42_1 x0 x1))), SV.one (T.lit (Value.bool (r42_2 x0 x1)))], []), true) := by kernel_rfl
theorem e42 (x0 : Int) (x1 : Int) : fnT Q41 [] [] 0 F42 [.one (.lit (.int .i64 x0)), .one (.lit (.int .i64 x1))] [] = some ((SV.tup [SV.one (T.lit (Value.int IntKind.i64 (g42_0 x0 x1))), SV.one (T.lit (Value.int IntKind.i64 (g42_1 x0 x1))), SV.one (T.lit (Value.bool (g42_2 x0 x1)))], []), true) := by rw [d42, c42_2]
def q42 : List SV → List Blk → Option ((SV × List Blk) × Bool)
  | [.one (.lit (.int .i64 x0)), .one (.lit (.int .i64 x1))], [] => some ((SV.tup [SV.one (T.lit (Value.int IntKind.i64 (g42_0 x0 x1))), SV.one (T.lit (Value.int IntKind.i64 (g42_1 x0 x1))), SV.one (T.lit (Value.bool (g42_2 x0 x1)))], []), true)
  | _, _ => none
theorem t42 (args : List SV) (hp : List Blk) (r : SV × List Blk) (h : q42 args hp = some (r, true)) : R 42 args hp = some r := by
  unfold q42 at h
  split at h
  · rename_i x0 x1; exact R_fn at42 0 (fnT_run Q41_ok ((e42 x0 x1).trans h))
  · simp at h
noncomputable def Q42 : Qt := qcons 42 q42 Q41
theorem Q42_ok : QOk R Q42 := qcons_ok t42 Q41_ok
/-! spec.MulWords -/
def g43_0 (x0 : Int) (x1 : Int) : Int := bif bif !g162_0 x0 then true else !g162_0 x1 then (0 : Int) else Int.fdiv (IntKind.wrap IntKind.i64 (x0 * x1)) (65536 : Int)
def g43_1 (x0 : Int) (x1 : Int) : Int := bif bif !g162_0 x0 then true else !g162_0 x1 then (0 : Int) else IntKind.wrap IntKind.i64 (↑(BitVec.toNat (BitVec.ofInt (64 : Nat) (IntKind.wrap IntKind.i64 (x0 * x1)) &&& BitVec.ofInt (64 : Nat) (65535 : Int))) : Int)
def r43_2 (x0 : Int) (x1 : Int) : Bool := bif bif !g162_0 x0 then true else !g162_0 x1 then false else true
def g43_2 (x0 : Int) (x1 : Int) : Bool := !bif !g162_0 x0 then true else !g162_0 x1
theorem c43_2 (x0 : Int) (x1 : Int) : r43_2 x0 x1 = g43_2 x0 x1 := by simp only [r43_2, g43_2, Bool.cond_self, bif_tf, bif_ft, Bool.not_not, List.drop_zero, List.take_length]
theorem d43 (x0 : Int) (x1 : Int) : fnT Q42 [] [] 0 F43 [.one (.lit (.int .i64 x0)), .one (.lit (.int .i64 x1))] [] = some ((SV.tup [SV.one (T.lit (Value.int IntKind.i64 (g43_0 x0 x1))), SV.one (T.lit (Value.int IntKind.i64 (g43_1 x0 x1))), SV.one (T.lit (Value.bool (r43_2 x0 x1)))], []), true) := by kernel_rfl
theorem e43 (x0 : Int) (x1 : Int) : fnT Q42 [] [] 0 F43 [.one (.lit (.int .i64 x0)), .one (.lit (.int .i64 x1))] [] = some ((SV.tup [SV.one (T.lit (Value.int IntKind.i64 (g43_0 x0 x1))), SV.one (T.lit (Value.int IntKind.i64 (g43_1 x0 x1))), SV.one (T.lit (Value.bool (g43_2 x0 x1)))], []), true) := by rw [d43, c43_2]
def q43 : List SV → List Blk → Option ((SV × List Blk) × Bool)
  | [.one (.lit (.int .i64 x0)), .one (.lit (.int .i64 x1))], [] => some ((SV.tup [SV.one (T.lit (Value.int IntKind.i64 (g43_0 x0 x1))), SV.one (T.lit (Value.int IntKind.i64 (g43_1 x0 x1))), SV.one (T.lit (Value.bool (g43_2 x0 x1)))], []), true)
  | _, _ => none
theorem t43 (args : List SV) (hp : List Blk) (r : SV × List Blk) (h : q43 args hp = some (r, true)) : R 43 args hp = some r := by
  unfold q43 at h
  split at h
  · rename_i x0 x1; exact R_fn at43 0 (fnT_run Q42_ok ((e43 x0 x1).trans h))
  · simp at h
noncomputable def Q43 : Qt := qcons 43 q43 Q42
theorem Q43_ok : QOk R Q43 := qcons_ok t43 Q42_ok
/-! spec.DrawBoothDigits -/
def g44_0 (x0 : List Row) : Int := g166_0 x0 (0 : Int) (0 : Int)
theorem k44 (x0 : List Row) (h : (bytesOk x0) = true) : (bytesOk x0 && true && true && true && true) = true := by
  have h0 := h
  simp only [h0, Bool.and_true, Bool.true_and, Bool.or_true, Bool.true_or, Bool.or_false, Bool.false_or, Bool.and_self, Bool.cond_self, Bool.not_true, Bool.not_false, Bool.false_and, Bool.and_false, u64_dec, Nat.zero_add, Nat.le_refl, decide_true, eq_self, List.drop_zero, List.take_length]
theorem e44 (x0 : List Row) : fnT Q43 [] [] 0 F44 [.one (.imm true 1 x0)] [] = some ((SV.one (T.lit (Value.int IntKind.i64 (g44_0 x0))), []), bytesOk x0 && true && true && true && true) := by kernel_rfl
def q44 : List SV → List Blk → Option ((SV × List Blk) × Bool)
  | [.one (.imm true 1 x0)], [] => some ((SV.one (T.lit (Value.int IntKind.i64 (g44_0 x0))), []), bytesOk x0)
  | _, _ => none
theorem t44 (args : List SV) (hp : List Blk) (r : SV × List Blk) (h : q44 args hp = some (r, true)) : R 44 args hp = some r := by
  unfold q44 at h
  split at h
  · rename_i x0; exact R_fn at44 0 (fnT_run Q43_ok (okTrans (e44 x0) (k44 x0) h))
  · simp at h
noncomputable def Q44 : Qt := qcons 44 q44 Q43
theorem Q44_ok : QOk R Q44 := qcons_ok t44 Q43_ok
/-! spec.BoothDigits -/
def r46_0 (x0 : Int) : Bool := bif !g162_0 x0 then false else true
theorem c46_0 (x0 : Int) : r46_0 x0 = g162_0 x0 := by simp only [r46_0, Bool.cond_self, bif_tf, bif_ft, Bool.not_not, List.drop_zero, List.take_length]
def g46_1 (x0 : Int) : List Row := bif !g162_0 x0 then [] else ri [g163_0 x0, g163_1 x0, g163_2 x0, g163_3 x0, g163_4 x0, g163_5 x0, g163_6 x0, g163_7 x0, g163_8 x0, g163_9 x0, g163_10 x0, g163_11 x0, g163_12 x0, g163_13 x0, g163_14 x0, g163_15 x0]
theorem n46_0 (x0 : Int) : (bif !g162_0 x0 then (0 : Nat) else (16 : Nat)) = List.length (g46_1 x0) := by simp only [g46_1, len_cond, List.length_nil, ri_len, List.length_cons, List.drop_zero, List.take_length, Nat.reduceAdd, Bool.cond_self]
theorem k46 (x0 : Int) (h : (true) = true) : (decide ((0 : Nat) + (16 : Nat) ≤ (16 : Nat)) && true && (decide ((16 : Nat) = (16 : Nat)) && true) || !g162_0 x0) = true := by
  simp only [Bool.and_true, Bool.true_and, Bool.or_true, Bool.true_or, Bool.or_false, Bool.false_or, Bool.and_self, Bool.cond_self, Bool.not_true, Bool.not_false, Bool.false_and, Bool.and_false, u64_dec, Nat.zero_add, Nat.le_refl, decide_true, eq_self, List.drop_zero, List.take_length]
theorem d46 (x0 : Int) : fnT Q44 [] [] 0 F46 [.one (.lit (.int .i64 x0))] [] = some ((SV.tup [SV.one (T.sl (0 : Nat) (0 : Nat) (bif !g162_0 x0 then (0 : Nat) else (16 : Nat))), SV.one (T.lit (Value.bool (r46_0 x0)))], [Blk.lst (1 : Nat) (g46_1 x0)]), decide ((0 : Nat) + (16 : Nat) ≤ (16 : Nat)) && true && (decide ((16 : Nat) = (16 : Nat)) && true) || !g162_0 x0) := by kernel_rfl
theorem e46 (x0 : Int) : fnT Q44 [] [] 0 F46 [.one (.lit (.int .i64 x0))] [] = some ((SV.tup [SV.one (T.sl (0 : Nat) (0 : Nat) (List.length (g46_1 x0))), SV.one (T.lit (Value.bool (g162_0 x0)))], [Blk.lst (1 : Nat) (g46_1 x0)]), decide ((0 : Nat) + (16 : Nat) ≤ (16 : Nat)) && true && (decide ((16 : Nat) = (16 : Nat)) && true) || !g162_0 x0) := by rw [d46, c46_0, n46_0 x0]
def q46 : List SV → List Blk → Option ((SV × List Blk) × Bool)
  | [.one (.lit (.int .i64 x0))], [] => some ((SV.tup [SV.one (T.sl (0 : Nat) (0 : Nat) (List.length (g46_1 x0))), SV.one (T.lit (Value.bool (g162_0 x0)))], [Blk.lst (1 : Nat) (g46_1 x0)]), true)
  | _, _ => none
theorem t46 (args : List SV) (hp : List Blk) (r : SV × List Blk) (h : q46 args hp = some (r, true)) : R 46 args hp = some r := by
  unfold q46 at h
  split at h
  · rename_i x0; exact R_fn at46 0 (fnT_run Q44_ok (okTrans (e46 x0) (k46 x0) h))
  · simp at h
noncomputable def Q46 : Qt := qcons 46 q46 Q44
theorem Q46_ok : QOk R Q46 := qcons_ok t46 Q44_ok
/-! laws.sameInts -/
def s47_0 (v0 : Bool) (v1 : List Row) (v2 : Bool) (v3 : List Row) (v4 : Int) (v5 : Int) : St := ⟨[(0, .one (.imm v0 1 v1)), (1, .one (.imm v2 1 v3)), (12, .one (.lit (.int .i64 v4))), (13, .one (.lit (.int .i64 v5)))], []⟩
def x47_0 (v0 : Bool) (v1 : List Row) (v2 : Bool) (v3 : List Row) (v4 : Int) (v5 : Int) : List (Ex × Bool × Tr) := [(Ex.brk (0 : Nat), !decide (v5 < v4), Tr.leaf { sl := [((0 : Nat), SV.one (T.imm v0 (1 : Nat) v1)), ((1 : Nat), SV.one (T.imm v2 (1 : Nat) v3)), ((12 : Nat), SV.one (T.lit (Value.int IntKind.i64 v4))), ((13 : Nat), SV.one (T.lit (Value.int IntKind.i64 v5))), ((14 : Nat), SV.one (T.lit (Value.bool (decide (v5 < v4)))))], hp := [] }), (Ex.ret, intAt v1 (Int.toNat v5) (0 : Nat) != intAt v3 (Int.toNat v5) (0 : Nat), Tr.leaf { sl := [((4 : Nat), SV.one (T.lit (Value.bool false)))], hp := [] })]
def u47_0 (v0 : Bool) (v1 : List Row) (v2 : Bool) (v3 : List Row) (v4 : Int) (v5 : Int) : St := { sl := [((0 : Nat), SV.one (T.imm v0 (1 : Nat) v1)), ((1 : Nat), SV.one (T.imm v2 (1 : Nat) v3)), ((12 : Nat), SV.one (T.lit (Value.int IntKind.i64 v4))), ((13 : Nat), SV.one (T.lit (Value.int IntKind.i64 (IntKind.wrap IntKind.i64 (v5 + (1 : Int))))))], hp := [] }
def y47_0 (v0 : Bool) (v1 : List Row) (v2 : Bool) (v3 : List Row) (v4 : Int) (v5 : Int) : Bool := inRow [Kd.int IntKind.i64] v1 v5 && inRow [Kd.int IntKind.i64] v3 v5 || !decide (v5 < v4)
theorem hy47_0 (v0 : Bool) (v1 : List Row) (v2 : Bool) (v3 : List Row) (v4 : Int) (v5 : Int) : (inRow [Kd.int IntKind.i64] v1 v5 && (inRow [Kd.int IntKind.i64] v3 v5 && true) && true && true || !decide (v5 < v4)) = y47_0 v0 v1 v2 v3 v4 v5 := by simp only [y47_0, List.drop_zero, List.take_length, Nat.zero_add, Nat.le_refl, Int.le_refl, decide_true, eq_self, ri_len, List.length_cons, List.length_nil, List.length_append, Nat.reduceAdd, u64_dec, Bool.and_self, Bool.true_and, Bool.and_true, Bool.or_true, Bool.true_or, Bool.or_false, Bool.false_or, Bool.cond_self, Bool.not_true, Bool.not_false]
def z47_0 (v0 : Bool) (v1 : List Row) (v2 : Bool) (v3 : List Row) (v4 : Int) (v5 : Int) : Bool := (!decide (v5 < v4) || (intAt v1 (Int.toNat v5) (0 : Nat) != intAt v3 (Int.toNat v5) (0 : Nat) || false))
def L47_0 : Nat → Bool → List Row → Bool → List Row → Int → Int → Option (Bool × List Row × Bool × List Row × Int × Int)
  | 0, _, _, _, _, _, _ => none
  | k + 1, v0, v1, v2, v3, v4, v5 => bif y47_0 v0 v1 v2 v3 v4 v5 then bif z47_0 v0 v1 v2 v3 v4 v5 then some (v0, v1, v2, v3, v4, v5) else L47_0 k (v0) (v1) (v2) (v3) (v4) (IntKind.wrap IntKind.i64 (v5 + (1 : Int))) else none
theorem hb47_0 (n : Nat) (v0 : Bool) (v1 : List Row) (v2 : Bool) (v3 : List Row) (v4 : Int) (v5 : Int) : Go.Zq.evt Q46 [(18, [.int .i64]), (19, [.int .i64]), (22, [.int .i64]), (23, [.int .i64])] [] lqN 0 n F47b0 (s47_0 v0 v1 v2 v3 v4 v5) = some (⟨x47_0 v0 v1 v2 v3 v4 v5, some (.leaf (u47_0 v0 v1 v2 v3 v4 v5))⟩, y47_0 v0 v1 v2 v3 v4 v5) := by
  rw [← hy47_0 v0 v1 v2 v3 v4 v5]
  kernel_rfl
theorem hc47_0 (v0 : Bool) (v1 : List Row) (v2 : Bool) (v3 : List Row) (v4 : Int) (v5 : Int) : canonS 0 [0, 1, 12, 13] (u47_0 v0 v1 v2 v3 v4 v5) = some (s47_0 (v0) (v1) (v2) (v3) (v4) (IntKind.wrap IntKind.i64 (v5 + (1 : Int))), true) := by
  kernel_rfl
def w47_0_0 (n : Nat) (v0 : Bool) (v1 : List Row) (v2 : Bool) (v3 : List Row) (v4 : Int) (v5 : Int) : Bool := ((L47_0 n v0 v1 v2 v3 v4 v5).getD (default, default, default, default, default, default)).1
def w47_0_1 (n : Nat) (v0 : Bool) (v1 : List Row) (v2 : Bool) (v3 : List Row) (v4 : Int) (v5 : Int) : List Row := ((L47_0 n v0 v1 v2 v3 v4 v5).getD (default, default, default, default, default, default)).2.1
def w47_0_2 (n : Nat) (v0 : Bool) (v1 : List Row) (v2 : Bool) (v3 : List Row) (v4 : Int) (v5 : Int) : Bool := ((L47_0 n v0 v1 v2 v3 v4 v5).getD (default, default, default, default, default, default)).2.2.1
def w47_0_3 (n : Nat) (v0 : Bool) (v1 : List Row) (v2 : Bool) (v3 : List Row) (v4 : Int) (v5 : Int) : List Row := ((L47_0 n v0 v1 v2 v3 v4 v5).getD (default, default, default, default, default, default)).2.2.2.1
def w47_0_4 (n : Nat) (v0 : Bool) (v1 : List Row) (v2 : Bool) (v3 : List Row) (v4 : Int) (v5 : Int) : Int := ((L47_0 n v0 v1 v2 v3 v4 v5).getD (default, default, default, default, default, default)).2.2.2.2.1
def w47_0_5 (n : Nat) (v0 : Bool) (v1 : List Row) (v2 : Bool) (v3 : List Row) (v4 : Int) (v5 : Int) : Int := ((L47_0 n v0 v1 v2 v3 v4 v5).getD (default, default, default, default, default, default)).2.2.2.2.2
def lq47_0 (n : Nat) (σ : St) : Option (O × Bool) :=
  match canonS 0 [0, 1, 12, 13] σ with
  | some (⟨[(0, .one (.imm v0 1 v1)), (1, .one (.imm v2 1 v3)), (12, .one (.lit (.int .i64 v4))), (13, .one (.lit (.int .i64 v5)))], []⟩, c) => some (⟨x47_0 (w47_0_0 n v0 v1 v2 v3 v4 v5) (w47_0_1 n v0 v1 v2 v3 v4 v5) (w47_0_2 n v0 v1 v2 v3 v4 v5) (w47_0_3 n v0 v1 v2 v3 v4 v5) (w47_0_4 n v0 v1 v2 v3 v4 v5) (w47_0_5 n v0 v1 v2 v3 v4 v5), none⟩, (c) && (L47_0 n v0 v1 v2 v3 v4 v5).isSome)
  | _ => none
theorem lt47_0 (n : Nat) : Tells (lq47_0 n) (evc R 0 n (.loop [0, 1, 12, 13] F47b0)) := fun σ σr o h hl => by
  unfold lq47_0 at h
  split at h
  · rename_i v0 v1 v2 v3 v4 v5 c hs
    exact lq_tells (V := Bool × List Row × Bool × List Row × Int × Int) (f := Go.Zq.evt Q46 [(18, [.int .i64]), (19, [.int .i64]), (22, [.int .i64]), (23, [.int .i64])] [] lqN 0 n F47b0) (st := fun v => s47_0 v.1 v.2.1 v.2.2.1 v.2.2.2.1 v.2.2.2.2.1 v.2.2.2.2.2) (ν := fun v => u47_0 v.1 v.2.1 v.2.2.1 v.2.2.2.1 v.2.2.2.2.1 v.2.2.2.2.2) (ob := (fun v => ⟨x47_0 v.1 v.2.1 v.2.2.1 v.2.2.2.1 v.2.2.2.2.1 v.2.2.2.2.2, some (.leaf (u47_0 v.1 v.2.1 v.2.2.1 v.2.2.2.1 v.2.2.2.2.1 v.2.2.2.2.2))⟩)) (okb := fun v => y47_0 v.1 v.2.1 v.2.2.1 v.2.2.2.1 v.2.2.2.2.1 v.2.2.2.2.2) (next := fun v => (fun v0 v1 v2 v3 v4 v5 => (v0, v1, v2, v3, v4, IntKind.wrap IntKind.i64 (v5 + (1 : Int)))) v.1 v.2.1 v.2.2.1 v.2.2.2.1 v.2.2.2.2.1 v.2.2.2.2.2)
      (evt_tells Q46_ok (by simp only [F47, F47b0, Loops, and_self, and_true])) (fun v => hb47_0 n v.1 v.2.1 v.2.2.1 v.2.2.2.1 v.2.2.2.2.1 v.2.2.2.2.2) (fun _ => rfl) (fun v _ _ => hc47_0 v.1 v.2.1 v.2.2.1 v.2.2.2.1 v.2.2.2.2.1 v.2.2.2.2.2) (L := fun k v => L47_0 k v.1 v.2.1 v.2.2.1 v.2.2.2.1 v.2.2.2.2.1 v.2.2.2.2.2) (fun _ => rfl) (fun _ _ => rfl) (v := (v0, v1, v2, v3, v4, v5)) (d := (default, default, default, default, default, default)) hs h hl
  · simp at h
def lq47x0 (n : Nat) : Lq := fun live σ => if live = [0, 1, 12, 13] then lq47_0 n σ else none
def r47_0 (px0 : Bool) (x0 : List Row) (px1 : Bool) (x1 : List Row) : Bool := bif (↑(List.length x0) : Int) != (↑(List.length x1) : Int) then false else bif intAt (w47_0_1 (List.length x0 + (1 : Nat)) px0 x0 px1 x1 (↑(List.length x0) : Int) (0 : Int)) (Int.toNat (w47_0_5 (List.length x0 + (1 : Nat)) px0 x0 px1 x1 (↑(List.length x0) : Int) (0 : Int))) (0 : Nat) != intAt (w47_0_3 (List.length x0 + (1 : Nat)) px0 x0 px1 x1 (↑(List.length x0) : Int) (0 : Int)) (Int.toNat (w47_0_5 (List.length x0 + (1 : Nat)) px0 x0 px1 x1 (↑(List.length x0) : Int) (0 : Int))) (0 : Nat) && !!decide (w47_0_5 (List.length x0 + (1 : Nat)) px0 x0 px1 x1 (↑(List.length x0) : Int) (0 : Int) < w47_0_4 (List.length x0 + (1 : Nat)) px0 x0 px1 x1 (↑(List.length x0) : Int) (0 : Int)) then false else true
def g47_0 (px0 : Bool) (x0 : List Row) (px1 : Bool) (x1 : List Row) : Bool := bif (↑(List.length x0) : Int) != (↑(List.length x1) : Int) then false else !(intAt (w47_0_1 (List.length x0 + (1 : Nat)) px0 x0 px1 x1 (↑(List.length x0) : Int) (0 : Int)) (Int.toNat (w47_0_5 (List.length x0 + (1 : Nat)) px0 x0 px1 x1 (↑(List.length x0) : Int) (0 : Int))) (0 : Nat) != intAt (w47_0_3 (List.length x0 + (1 : Nat)) px0 x0 px1 x1 (↑(List.length x0) : Int) (0 : Int)) (Int.toNat (w47_0_5 (List.length x0 + (1 : Nat)) px0 x0 px1 x1 (↑(List.length x0) : Int) (0 : Int))) (0 : Nat) && decide (w47_0_5 (List.length x0 + (1 : Nat)) px0 x0 px1 x1 (↑(List.length x0) : Int) (0 : Int) < w47_0_4 (List.length x0 + (1 : Nat)) px0 x0 px1 x1 (↑(List.length x0) : Int) (0 : Int)))
theorem c47_0 (px0 : Bool) (x0 : List Row) (px1 : Bool) (x1 : List Row) : r47_0 px0 x0 px1 x1 = g47_0 px0 x0 px1 x1 := by simp only [r47_0, g47_0, Bool.cond_self, bif_tf, bif_ft, Bool.not_not, List.drop_zero, List.take_length]
theorem k47 (px0 : Bool) (x0 : List Row) (px1 : Bool) (x1 : List Row) (h : (Option.isSome (L47_0 (List.length x0 + (1 : Nat)) px0 x0 px1 x1 (↑(List.length x0) : Int) (0 : Int)) || (↑(List.length x0) : Int) != (↑(List.length x1) : Int)) = true) : ((Option.isSome (L47_0 (List.length x0 + (1 : Nat)) px0 x0 px1 x1 (↑(List.length x0) : Int) (0 : Int)) && true || (↑(List.length x0) : Int) != (↑(List.length x1) : Int)) && true) = true := by
  have h0 := h
  simp only [h0, Bool.and_true, Bool.true_and, Bool.or_true, Bool.true_or, Bool.or_false, Bool.false_or, Bool.and_self, Bool.cond_self, Bool.not_true, Bool.not_false, Bool.false_and, Bool.and_false, u64_dec, Nat.zero_add, Nat.le_refl, decide_true, eq_self, List.drop_zero, List.take_length]
theorem d47 (px0 : Bool) (x0 : List Row) (px1 : Bool) (x1 : List Row) : fnL Q46 [(18, [.int .i64]), (19, [.int .i64]), (22, [.int .i64]), (23, [.int .i64])] [] (lq47x0 (List.length x0 + 1)) (List.length x0 + 1) F47 [.one (.imm px0 1 x0), .one (.imm px1 1 x1)] [] = some ((SV.one (T.lit (Value.bool (r47_0 px0 x0 px1 x1))), []), (Option.isSome (L47_0 (List.length x0 + (1 : Nat)) px0 x0 px1 x1 (↑(List.length x0) : Int) (0 : Int)) && true || (↑(List.length x0) : Int) != (↑(List.length x1) : Int)) && true) := by kernel_rfl
theorem e47 (px0 : Bool) (x0 : List Row) (px1 : Bool) (x1 : List Row) : fnL Q46 [(18, [.int .i64]), (19, [.int .i64]), (22, [.int .i64]), (23, [.int .i64])] [] (lq47x0 (List.length x0 + 1)) (List.length x0 + 1) F47 [.one (.imm px0 1 x0), .one (.imm px1 1 x1)] [] = some ((SV.one (T.lit (Value.bool (g47_0 px0 x0 px1 x1))), []), (Option.isSome (L47_0 (List.length x0 + (1 : Nat)) px0 x0 px1 x1 (↑(List.length x0) : Int) (0 : Int)) && true || (↑(List.length x0) : Int) != (↑(List.length x1) : Int)) && true) := by rw [d47, c47_0]
def q47 : List SV → List Blk → Option ((SV × List Blk) × Bool)
  | [.one (.imm px0 1 x0), .one (.imm px1 1 x1)], [] => some ((SV.one (T.lit (Value.bool (g47_0 px0 x0 px1 x1))), []), Option.isSome (L47_0 (List.length x0 + (1 : Nat)) px0 x0 px1 x1 (↑(List.length x0) : Int) (0 : Int)) || (↑(List.length x0) : Int) != (↑(List.length x1) : Int))
  | _, _ => none
theorem t47 (args : List SV) (hp : List Blk) (r : SV × List Blk) (h : q47 args hp = some (r, true)) : R 47 args hp = some r := by
  unfold q47 at h
  split at h
  · rename_i px0 x0 px1 x1; exact R_fn at47 (List.length x0 + 1) (fnL_run Q46_ok (by simp only [F47, F47b0, Loops, true_and, and_true]; first | trivial | (repeat' apply And.intro) <;> first | trivial  | exact fun σ σr o h hl => lt47_0 _ σ σr o h hl) (okTrans (e47 px0 x0 px1 x1) (k47 px0 x0 px1 x1) h))
  · simp at h
noncomputable def Q47 : Qt := qcons 47 q47 Q46
theorem Q47_ok : QOk R Q47 := qcons_ok t47 Q46_ok
/-! laws.FnProducts -/
def s5_0 (v0 : List Row) (v1 : Int) (v2 : Int) (v3 : Int) (v4 : Int) (v5 : Int) (v6 : Int) : St := ⟨[(25, .one (.lit (.int .i64 v1))), (26, .one (.sl 0 0 (List.length v0))), (30, .one (.lit (.int .i64 v2))), (31, .one (.lit (.int .i64 v3))), (32, .one (.lit (.int .i64 v4))), (189, .one (.sl 0 0 (List.length v0))), (190, .one (.lit (.int .i64 v5))), (191, .one (.lit (.int .i64 v6)))], [.lst 1 v0]⟩
def x5_0 (v0 : List Row) (v1 : Int) (v2 : Int) (v3 : Int) (v4 : Int) (v5 : Int) (v6 : Int) : List (Ex × Bool × Tr) := [(Ex.brk (0 : Nat), !decide (v6 < v5), Tr.leaf { sl := [((25 : Nat), SV.one (T.lit (Value.int IntKind.i64 v1))), ((26 : Nat), SV.one (T.sl (0 : Nat) (0 : Nat) (List.length v0))), ((30 : Nat), SV.one (T.lit (Value.int IntKind.i64 v2))), ((31 : Nat), SV.one (T.lit (Value.int IntKind.i64 v3))), ((32 : Nat), SV.one (T.lit (Value.int IntKind.i64 v4))), ((189 : Nat), SV.one (T.sl (0 : Nat) (0 : Nat) (List.length v0))), ((190 : Nat), SV.one (T.lit (Value.int IntKind.i64 v5))), ((191 : Nat), SV.one (T.lit (Value.int IntKind.i64 v6))), ((192 : Nat), SV.one (T.lit (Value.bool (decide (v6 < v5)))))], hp := [Blk.lst (1 : Nat) v0] }), (Ex.ret, intAt v0 ((0 : Nat) + Int.toNat v6) (0 : Nat) == v4 && intAt v0 ((0 : Nat) + Int.toNat v6) (0 : Nat) != (0 : Int), Tr.leaf { sl := [((4 : Nat), SV.one (T.lit (Value.bool false)))], hp := [Blk.lst (1 : Nat) v0] })]
def u5_0 (v0 : List Row) (v1 : Int) (v2 : Int) (v3 : Int) (v4 : Int) (v5 : Int) (v6 : Int) : St := { sl := [((25 : Nat), SV.one (T.lit (Value.int IntKind.i64 v1))), ((26 : Nat), SV.one (T.sl (0 : Nat) (0 : Nat) (List.length v0))), ((30 : Nat), SV.one (T.lit (Value.int IntKind.i64 (IntKind.wrap IntKind.i64 (v2 + IntKind.wrap IntKind.i64 (intAt v0 ((0 : Nat) + Int.toNat v6) (0 : Nat) * v3)))))), ((31 : Nat), SV.one (T.lit (Value.int IntKind.i64 (IntKind.wrap IntKind.i64 (v3 * (2 : Int)))))), ((32 : Nat), SV.one (T.lit (Value.int IntKind.i64 (bif intAt v0 ((0 : Nat) + Int.toNat v6) (0 : Nat) != (0 : Int) then intAt v0 ((0 : Nat) + Int.toNat v6) (0 : Nat) else v4)))), ((189 : Nat), SV.one (T.sl (0 : Nat) (0 : Nat) (List.length v0))), ((190 : Nat), SV.one (T.lit (Value.int IntKind.i64 v5))), ((191 : Nat), SV.one (T.lit (Value.int IntKind.i64 (IntKind.wrap IntKind.i64 (v6 + (1 : Int))))))], hp := [Blk.lst (1 : Nat) v0] }
def y5_0 (v0 : List Row) (v1 : Int) (v2 : Int) (v3 : Int) (v4 : Int) (v5 : Int) (v6 : Int) : Bool := decide ((0 : Int) ≤ v6) && decide (v6 < (↑(List.length v0) : Int)) && hasRow [Kd.int IntKind.i64] v0 ((0 : Nat) + Int.toNat v6) (0 : Nat) || !decide (v6 < v5)
theorem hy5_0 (v0 : List Row) (v1 : Int) (v2 : Int) (v3 : Int) (v4 : Int) (v5 : Int) (v6 : Int) : (decide ((0 : Int) ≤ v6) && decide (v6 < (↑(List.length v0) : Int)) && (hasRow [Kd.int IntKind.i64] v0 ((0 : Nat) + Int.toNat v6) (0 : Nat) && true) && true && true || !decide (v6 < v5)) = y5_0 v0 v1 v2 v3 v4 v5 v6 := by simp only [y5_0, List.drop_zero, List.take_length, Nat.zero_add, Nat.le_refl, Int.le_refl, decide_true, eq_self, ri_len, List.length_cons, List.length_nil, List.length_append, Nat.reduceAdd, u64_dec, Bool.and_self, Bool.true_and, Bool.and_true, Bool.or_true, Bool.true_or, Bool.or_false, Bool.false_or, Bool.cond_self, Bool.not_true, Bool.not_false]
def z5_0 (v0 : List Row) (v1 : Int) (v2 : Int) (v3 : Int) (v4 : Int) (v5 : Int) (v6 : Int) : Bool := (!decide (v6 < v5) || (intAt v0 ((0 : Nat) + Int.toNat v6) (0 : Nat) == v4 && intAt v0 ((0 : Nat) + Int.toNat v6) (0 : Nat) != (0 : Int) || false))
def L5_0 : Nat → List Row → Int → Int → Int → Int → Int → Int → Option (List Row × Int × Int × Int × Int × Int × Int)
  | 0, _, _, _, _, _, _, _ => none
  | k + 1, v0, v1, v2, v3, v4, v5, v6 => bif y5_0 v0 v1 v2 v3 v4 v5 v6 then bif z5_0 v0 v1 v2 v3 v4 v5 v6 then some (v0, v1, v2, v3, v4, v5, v6) else L5_0 k (v0) (v1) (IntKind.wrap IntKind.i64 (v2 + IntKind.wrap IntKind.i64 (intAt v0 ((0 : Nat) + Int.toNat v6) (0 : Nat) * v3))) (IntKind.wrap IntKind.i64 (v3 * (2 : Int))) (bif intAt v0 ((0 : Nat) + Int.toNat v6) (0 : Nat) != (0 : Int) then intAt v0 ((0 : Nat) + Int.toNat v6) (0 : Nat) else v4) (v5) (IntKind.wrap IntKind.i64 (v6 + (1 : Int))) else none
theorem hb5_0 (n : Nat) (v0 : List Row) (v1 : Int) (v2 : Int) (v3 : Int) (v4 : Int) (v5 : Int) (v6 : Int) : Go.Zq.evt Q47 [(193, [.int .i64]), (194, [.int .i64])] [] lqN 0 n F5b0 (s5_0 v0 v1 v2 v3 v4 v5 v6) = some (⟨x5_0 v0 v1 v2 v3 v4 v5 v6, some (.leaf (u5_0 v0 v1 v2 v3 v4 v5 v6))⟩, y5_0 v0 v1 v2 v3 v4 v5 v6) := by
  rw [← hy5_0 v0 v1 v2 v3 v4 v5 v6]
  kernel_rfl
theorem hc5_0 (v0 : List Row) (v1 : Int) (v2 : Int) (v3 : Int) (v4 : Int) (v5 : Int) (v6 : Int) : canonS 0 [25, 26, 30, 31, 32, 189, 190, 191] (u5_0 v0 v1 v2 v3 v4 v5 v6) = some (s5_0 (v0) (v1) (IntKind.wrap IntKind.i64 (v2 + IntKind.wrap IntKind.i64 (intAt v0 ((0 : Nat) + Int.toNat v6) (0 : Nat) * v3))) (IntKind.wrap IntKind.i64 (v3 * (2 : Int))) (bif intAt v0 ((0 : Nat) + Int.toNat v6) (0 : Nat) != (0 : Int) then intAt v0 ((0 : Nat) + Int.toNat v6) (0 : Nat) else v4) (v5) (IntKind.wrap IntKind.i64 (v6 + (1 : Int))), true) := by
  have e : canonS 0 [25, 26, 30, 31, 32, 189, 190, 191] (u5_0 v0 v1 v2 v3 v4 v5 v6) = some ({ sl := [((25 : Nat), SV.one (T.lit (Value.int IntKind.i64 v1))), ((26 : Nat), SV.one (T.sl (0 : Nat) (0 : Nat) (List.length v0))), ((30 : Nat), SV.one (T.lit (Value.int IntKind.i64 (IntKind.wrap IntKind.i64 (v2 + IntKind.wrap IntKind.i64 (intAt v0 ((0 : Nat) + Int.toNat v6) (0 : Nat) * v3)))))), ((31 : Nat), SV.one (T.lit (Value.int IntKind.i64 (IntKind.wrap IntKind.i64 (v3 * (2 : Int)))))), ((32 : Nat), SV.one (T.lit (Value.int IntKind.i64 (bif intAt v0 ((0 : Nat) + Int.toNat v6) (0 : Nat) != (0 : Int) then intAt v0 ((0 : Nat) + Int.toNat v6) (0 : Nat) else v4)))), ((189 : Nat), SV.one (T.sl (0 : Nat) (0 : Nat) (List.length v0))), ((190 : Nat), SV.one (T.lit (Value.int IntKind.i64 v5))), ((191 : Nat), SV.one (T.lit (Value.int IntKind.i64 (IntKind.wrap IntKind.i64 (v6 + (1 : Int))))))], hp := [Blk.lst (1 : Nat) (List.take (List.length v0) (List.drop (0 : Nat) v0))] }, decide (List.length v0 = List.length v0) && true && (decide ((0 : Nat) + List.length v0 ≤ List.length v0) && true && (decide (List.length v0 = List.length v0) && (decide (List.length v0 = List.length v0) && true)))) := by kernel_rfl
  rw [e]
  simp only [s5_0, List.drop_zero, List.take_length, Nat.zero_add, Nat.le_refl, decide_true, eq_self, Bool.and_self, Bool.true_and, Bool.and_true]
def w5_0_0 (n : Nat) (v0 : List Row) (v1 : Int) (v2 : Int) (v3 : Int) (v4 : Int) (v5 : Int) (v6 : Int) : List Row := ((L5_0 n v0 v1 v2 v3 v4 v5 v6).getD (default, default, default, default, default, default, default)).1
def w5_0_1 (n : Nat) (v0 : List Row) (v1 : Int) (v2 : Int) (v3 : Int) (v4 : Int) (v5 : Int) (v6 : Int) : Int := ((L5_0 n v0 v1 v2 v3 v4 v5 v6).getD (default, default, default, default, default, default, default)).2.1
def w5_0_2 (n : Nat) (v0 : List Row) (v1 : Int) (v2 : Int) (v3 : Int) (v4 : Int) (v5 : Int) (v6 : Int) : Int := ((L5_0 n v0 v1 v2 v3 v4 v5 v6).getD (default, default, default, default, default, default, default)).2.2.1
def w5_0_3 (n : Nat) (v0 : List Row) (v1 : Int) (v2 : Int) (v3 : Int) (v4 : Int) (v5 : Int) (v6 : Int) : Int := ((L5_0 n v0 v1 v2 v3 v4 v5 v6).getD (default, default, default, default, default, default, default)).2.2.2.1
def w5_0_4 (n : Nat) (v0 : List Row) (v1 : Int) (v2 : Int) (v3 : Int) (v4 : Int) (v5 : Int) (v6 : Int) : Int := ((L5_0 n v0 v1 v2 v3 v4 v5 v6).getD (default, default, default, default, default, default, default)).2.2.2.2.1
def w5_0_5 (n : Nat) (v0 : List Row) (v1 : Int) (v2 : Int) (v3 : Int) (v4 : Int) (v5 : Int) (v6 : Int) : Int := ((L5_0 n v0 v1 v2 v3 v4 v5 v6).getD (default, default, default, default, default, default, default)).2.2.2.2.2.1
def w5_0_6 (n : Nat) (v0 : List Row) (v1 : Int) (v2 : Int) (v3 : Int) (v4 : Int) (v5 : Int) (v6 : Int) : Int := ((L5_0 n v0 v1 v2 v3 v4 v5 v6).getD (default, default, default, default, default, default, default)).2.2.2.2.2.2
def lq5_0 (n : Nat) (σ : St) : Option (O × Bool) :=
  match canonS 0 [25, 26, 30, 31, 32, 189, 190, 191] σ with
  | some (⟨[(25, .one (.lit (.int .i64 v1))), (26, .one (.sl 0 0 l0)), (30, .one (.lit (.int .i64 v2))), (31, .one (.lit (.int .i64 v3))), (32, .one (.lit (.int .i64 v4))), (189, .one (.sl 0 0 l1)), (190, .one (.lit (.int .i64 v5))), (191, .one (.lit (.int .i64 v6)))], [.lst 1 v0]⟩, c) => some (⟨x5_0 (w5_0_0 n v0 v1 v2 v3 v4 v5 v6) (w5_0_1 n v0 v1 v2 v3 v4 v5 v6) (w5_0_2 n v0 v1 v2 v3 v4 v5 v6) (w5_0_3 n v0 v1 v2 v3 v4 v5 v6) (w5_0_4 n v0 v1 v2 v3 v4 v5 v6) (w5_0_5 n v0 v1 v2 v3 v4 v5 v6) (w5_0_6 n v0 v1 v2 v3 v4 v5 v6), none⟩, (c && decide (l0 = List.length v0) && decide (l1 = List.length v0)) && (L5_0 n v0 v1 v2 v3 v4 v5 v6).isSome)
  | _ => none
theorem lt5_0 (n : Nat) : Tells (lq5_0 n) (evc R 0 n (.loop [25, 26, 30, 31, 32, 189, 190, 191] F5b0)) := fun σ σr o h hl => by
  unfold lq5_0 at h
  split at h
  · rename_i v1 l0 v2 v3 v4 l1 v5 v6 v0 c hs
    have hk : (c && decide (l0 = List.length v0) && decide (l1 = List.length v0)) && (L5_0 n v0 v1 v2 v3 v4 v5 v6).isSome = true := by
      have := congrArg (Option.map (·.2)) h
      simpa using this
    obtain ⟨ho, -⟩ := and_t hk
    obtain ⟨ho, e1⟩ := and_t ho
    have e1 := of_decide_eq_true e1
    obtain ⟨ho, e0⟩ := and_t ho
    have e0 := of_decide_eq_true e0
    subst e0
    subst e1
    simp only [decide_true, Bool.and_true] at h
    exact lq_tells (V := List Row × Int × Int × Int × Int × Int × Int) (f := Go.Zq.evt Q47 [(193, [.int .i64]), (194, [.int .i64])] [] lqN 0 n F5b0) (st := fun v => s5_0 v.1 v.2.1 v.2.2.1 v.2.2.2.1 v.2.2.2.2.1 v.2.2.2.2.2.1 v.2.2.2.2.2.2) (ν := fun v => u5_0 v.1 v.2.1 v.2.2.1 v.2.2.2.1 v.2.2.2.2.1 v.2.2.2.2.2.1 v.2.2.2.2.2.2) (ob := (fun v => ⟨x5_0 v.1 v.2.1 v.2.2.1 v.2.2.2.1 v.2.2.2.2.1 v.2.2.2.2.2.1 v.2.2.2.2.2.2, some (.leaf (u5_0 v.1 v.2.1 v.2.2.1 v.2.2.2.1 v.2.2.2.2.1 v.2.2.2.2.2.1 v.2.2.2.2.2.2))⟩)) (okb := fun v => y5_0 v.1 v.2.1 v.2.2.1 v.2.2.2.1 v.2.2.2.2.1 v.2.2.2.2.2.1 v.2.2.2.2.2.2) (next := fun v => (fun v0 v1 v2 v3 v4 v5 v6 => (v0, v1, IntKind.wrap IntKind.i64 (v2 + IntKind.wrap IntKind.i64 (intAt v0 ((0 : Nat) + Int.toNat v6) (0 : Nat) * v3)), IntKind.wrap IntKind.i64 (v3 * (2 : Int)), bif intAt v0 ((0 : Nat) + Int.toNat v6) (0 : Nat) != (0 : Int) then intAt v0 ((0 : Nat) + Int.toNat v6) (0 : Nat) else v4, v5, IntKind.wrap IntKind.i64 (v6 + (1 : Int)))) v.1 v.2.1 v.2.2.1 v.2.2.2.1 v.2.2.2.2.1 v.2.2.2.2.2.1 v.2.2.2.2.2.2)
      (evt_tells Q47_ok (by simp only [F5, F5r16, F5r15, F5r14, F5r13, F5r12, F5r11, F5r10, F5r9, F5r8, F5r7, F5r6, F5r5, F5r4, F5r3, F5r2, F5r1, F5b0, Loops, and_self, and_true])) (fun v => hb5_0 n v.1 v.2.1 v.2.2.1 v.2.2.2.1 v.2.2.2.2.1 v.2.2.2.2.2.1 v.2.2.2.2.2.2) (fun _ => rfl) (fun v _ _ => hc5_0 v.1 v.2.1 v.2.2.1 v.2.2.2.1 v.2.2.2.2.1 v.2.2.2.2.2.1 v.2.2.2.2.2.2) (L := fun k v => L5_0 k v.1 v.2.1 v.2.2.1 v.2.2.2.1 v.2.2.2.2.1 v.2.2.2.2.2.1 v.2.2.2.2.2.2) (fun _ => rfl) (fun _ _ => rfl) (v := (v0, v1, v2, v3, v4, v5, v6)) (d := (default, default, default, default, default, default, default)) hs h hl
  · simp at h
def lq5x0 (n : Nat) : Lq := fun live σ => if live = [25, 26, 30, 31, 32, 189, 190, 191] then lq5_0 n σ else none
def r5_0 (x0 : List Row) (x1 : List Row) : Bool := bif decide (IntKind.wrap IntKind.i64 ((↑(List.length x0) : Int) + (↑(List.length x1) : Int)) > (1048576 : Int)) then true else bif bif bif bif bif bif bif bif bif !g38_2 (g159_0 x0) (g159_1 x0) == g39_2 (g159_0 x0) (g159_1 x0) then true else g38_0 (g159_0 x0) (g159_1 x0) != g39_0 (g159_0 x0) (g159_1 x0) then true else g38_1 (g159_0 x0) (g159_1 x0) != g39_1 (g159_0 x0) (g159_1 x0) then true else !g40_2 (g159_0 x0) (g159_1 x0) == g41_2 (g159_0 x0) (g159_1 x0) then true else g40_0 (g159_0 x0) (g159_1 x0) != g41_0 (g159_0 x0) (g159_1 x0) then true else g40_1 (g159_0 x0) (g159_1 x0) != g41_1 (g159_0 x0) (g159_1 x0) then true else !g42_2 (g159_0 x0) (g159_1 x0) == g43_2 (g159_0 x0) (g159_1 x0) then true else g42_0 (g159_0 x0) (g159_1 x0) != g43_0 (g159_0 x0) (g159_1 x0) then true else g42_1 (g159_0 x0) (g159_1 x0) != g43_1 (g159_0 x0) (g159_1 x0) then false else bif bif g38_2 (g159_0 x0) (g159_1 x0) then bif bif bif bif bif !g40_2 (g159_0 x0) (g159_1 x0) then true else !g42_2 (g159_0 x0) (g159_1 x0) then true else g38_0 (g159_0 x0) (g159_1 x0) != g40_0 (g159_0 x0) (g159_1 x0) then true else g38_1 (g159_0 x0) (g159_1 x0) != g40_1 (g159_0 x0) (g159_1 x0) then true else IntKind.wrap IntKind.i64 (IntKind.wrap IntKind.i64 (g42_0 (g159_0 x0) (g159_1 x0) * (65536 : Int)) + g42_1 (g159_0 x0) (g159_1 x0)) != IntKind.wrap IntKind.i64 (g159_0 x0 * g159_1 x0) then true else g38_1 (g159_0 x0) (g159_1 x0) != g42_1 (g159_0 x0) (g159_1 x0) else false then false else bif bif !g160_0 (g44_0 x1) == g162_0 (g44_0 x1) then true else !g47_0 false (List.take (List.length (g45_1 (g44_0 x1))) (List.drop (0 : Nat) (g45_1 (g44_0 x1)))) false (List.take (List.length (g46_1 (g44_0 x1))) (List.drop (0 : Nat) (g46_1 (g44_0 x1)))) then false else bif intAt (w5_0_0 (70 : Nat) (List.take (List.length (g45_1 (g44_0 x1))) (List.drop (0 : Nat) (g45_1 (g44_0 x1)))) (g44_0 x1) (0 : Int) (1 : Int) (0 : Int) (↑(List.length (g45_1 (g44_0 x1))) : Int) (0 : Int)) ((0 : Nat) + Int.toNat (w5_0_6 (70 : Nat) (List.take (List.length (g45_1 (g44_0 x1))) (List.drop (0 : Nat) (g45_1 (g44_0 x1)))) (g44_0 x1) (0 : Int) (1 : Int) (0 : Int) (↑(List.length (g45_1 (g44_0 x1))) : Int) (0 : Int))) (0 : Nat) == w5_0_4 (70 : Nat) (List.take (List.length (g45_1 (g44_0 x1))) (List.drop (0 : Nat) (g45_1 (g44_0 x1)))) (g44_0 x1) (0 : Int) (1 : Int) (0 : Int) (↑(List.length (g45_1 (g44_0 x1))) : Int) (0 : Int) && intAt (w5_0_0 (70 : Nat) (List.take (List.length (g45_1 (g44_0 x1))) (List.drop (0 : Nat) (g45_1 (g44_0 x1)))) (g44_0 x1) (0 : Int) (1 : Int) (0 : Int) (↑(List.length (g45_1 (g44_0 x1))) : Int) (0 : Int)) ((0 : Nat) + Int.toNat (w5_0_6 (70 : Nat) (List.take (List.length (g45_1 (g44_0 x1))) (List.drop (0 : Nat) (g45_1 (g44_0 x1)))) (g44_0 x1) (0 : Int) (1 : Int) (0 : Int) (↑(List.length (g45_1 (g44_0 x1))) : Int) (0 : Int))) (0 : Nat) != (0 : Int) && !!decide (w5_0_6 (70 : Nat) (List.take (List.length (g45_1 (g44_0 x1))) (List.drop (0 : Nat) (g45_1 (g44_0 x1)))) (g44_0 x1) (0 : Int) (1 : Int) (0 : Int) (↑(List.length (g45_1 (g44_0 x1))) : Int) (0 : Int) < w5_0_5 (70 : Nat) (List.take (List.length (g45_1 (g44_0 x1))) (List.drop (0 : Nat) (g45_1 (g44_0 x1)))) (g44_0 x1) (0 : Int) (1 : Int) (0 : Int) (↑(List.length (g45_1 (g44_0 x1))) : Int) (0 : Int)) && g160_0 (g44_0 x1) then false else bif g160_0 (g44_0 x1) then bif bif g151_0 (2 : Int) (w5_0_1 (70 : Nat) (List.take (List.length (g45_1 (g44_0 x1))) (List.drop (0 : Nat) (g45_1 (g44_0 x1)))) (g44_0 x1) (0 : Int) (1 : Int) (0 : Int) (↑(List.length (g45_1 (g44_0 x1))) : Int) (0 : Int)) then w5_0_2 (70 : Nat) (List.take (List.length (g45_1 (g44_0 x1))) (List.drop (0 : Nat) (g45_1 (g44_0 x1)))) (g44_0 x1) (0 : Int) (1 : Int) (0 : Int) (↑(List.length (g45_1 (g44_0 x1))) : Int) (0 : Int) == g33_0 (2 : Int) (w5_0_1 (70 : Nat) (List.take (List.length (g45_1 (g44_0 x1))) (List.drop (0 : Nat) (g45_1 (g44_0 x1)))) (g44_0 x1) (0 : Int) (1 : Int) (0 : Int) (↑(List.length (g45_1 (g44_0 x1))) : Int) (0 : Int)) else false then (↑(List.length (w5_0_0 (70 : Nat) (List.take (List.length (g45_1 (g44_0 x1))) (List.drop (0 : Nat) (g45_1 (g44_0 x1)))) (g44_0 x1) (0 : Int) (1 : Int) (0 : Int) (↑(List.length (g45_1 (g44_0 x1))) : Int) (0 : Int))) : Int) == (16 : Int) else false else true
def g5_0 (x0 : List Row) (x1 : List Row) : Bool := bif decide (IntKind.wrap IntKind.i64 ((↑(List.length x0) : Int) + (↑(List.length x1) : Int)) > (1048576 : Int)) then true else bif bif bif bif bif bif bif bif bif !g38_2 (g159_0 x0) (g159_1 x0) == g39_2 (g159_0 x0) (g159_1 x0) then true else g38_0 (g159_0 x0) (g159_1 x0) != g39_0 (g159_0 x0) (g159_1 x0) then true else g38_1 (g159_0 x0) (g159_1 x0) != g39_1 (g159_0 x0) (g159_1 x0) then true else !g40_2 (g159_0 x0) (g159_1 x0) == g41_2 (g159_0 x0) (g159_1 x0) then true else g40_0 (g159_0 x0) (g159_1 x0) != g41_0 (g159_0 x0) (g159_1 x0) then true else g40_1 (g159_0 x0) (g159_1 x0) != g41_1 (g159_0 x0) (g159_1 x0) then true else !g42_2 (g159_0 x0) (g159_1 x0) == g43_2 (g159_0 x0) (g159_1 x0) then true else g42_0 (g159_0 x0) (g159_1 x0) != g43_0 (g159_0 x0) (g159_1 x0) then true else g42_1 (g159_0 x0) (g159_1 x0) != g43_1 (g159_0 x0) (g159_1 x0) then false else bif bif g38_2 (g159_0 x0) (g159_1 x0) then bif bif bif bif bif !g40_2 (g159_0 x0) (g159_1 x0) then true else !g42_2 (g159_0 x0) (g159_1 x0) then true else g38_0 (g159_0 x0) (g159_1 x0) != g40_0 (g159_0 x0) (g159_1 x0) then true else g38_1 (g159_0 x0) (g159_1 x0) != g40_1 (g159_0 x0) (g159_1 x0) then true else IntKind.wrap IntKind.i64 (IntKind.wrap IntKind.i64 (g42_0 (g159_0 x0) (g159_1 x0) * (65536 : Int)) + g42_1 (g159_0 x0) (g159_1 x0)) != IntKind.wrap IntKind.i64 (g159_0 x0 * g159_1 x0) then true else g38_1 (g159_0 x0) (g159_1 x0) != g42_1 (g159_0 x0) (g159_1 x0) else false then false else bif bif !g160_0 (g44_0 x1) == g162_0 (g44_0 x1) then true else !g47_0 false (g45_1 (g44_0 x1)) false (g46_1 (g44_0 x1)) then false else bif intAt (w5_0_0 (70 : Nat) (g45_1 (g44_0 x1)) (g44_0 x1) (0 : Int) (1 : Int) (0 : Int) (↑(List.length (g45_1 (g44_0 x1))) : Int) (0 : Int)) ((0 : Nat) + Int.toNat (w5_0_6 (70 : Nat) (g45_1 (g44_0 x1)) (g44_0 x1) (0 : Int) (1 : Int) (0 : Int) (↑(List.length (g45_1 (g44_0 x1))) : Int) (0 : Int))) (0 : Nat) == w5_0_4 (70 : Nat) (g45_1 (g44_0 x1)) (g44_0 x1) (0 : Int) (1 : Int) (0 : Int) (↑(List.length (g45_1 (g44_0 x1))) : Int) (0 : Int) && intAt (w5_0_0 (70 : Nat) (g45_1 (g44_0 x1)) (g44_0 x1) (0 : Int) (1 : Int) (0 : Int) (↑(List.length (g45_1 (g44_0 x1))) : Int) (0 : Int)) ((0 : Nat) + Int.toNat (w5_0_6 (70 : Nat) (g45_1 (g44_0 x1)) (g44_0 x1) (0 : Int) (1 : Int) (0 : Int) (↑(List.length (g45_1 (g44_0 x1))) : Int) (0 : Int))) (0 : Nat) != (0 : Int) && decide (w5_0_6 (70 : Nat) (g45_1 (g44_0 x1)) (g44_0 x1) (0 : Int) (1 : Int) (0 : Int) (↑(List.length (g45_1 (g44_0 x1))) : Int) (0 : Int) < w5_0_5 (70 : Nat) (g45_1 (g44_0 x1)) (g44_0 x1) (0 : Int) (1 : Int) (0 : Int) (↑(List.length (g45_1 (g44_0 x1))) : Int) (0 : Int)) && g160_0 (g44_0 x1) then false else bif g160_0 (g44_0 x1) then bif bif g151_0 (2 : Int) (w5_0_1 (70 : Nat) (g45_1 (g44_0 x1)) (g44_0 x1) (0 : Int) (1 : Int) (0 : Int) (↑(List.length (g45_1 (g44_0 x1))) : Int) (0 : Int)) then w5_0_2 (70 : Nat) (g45_1 (g44_0 x1)) (g44_0 x1) (0 : Int) (1 : Int) (0 : Int) (↑(List.length (g45_1 (g44_0 x1))) : Int) (0 : Int) == g33_0 (2 : Int) (w5_0_1 (70 : Nat) (g45_1 (g44_0 x1)) (g44_0 x1) (0 : Int) (1 : Int) (0 : Int) (↑(List.length (g45_1 (g44_0 x1))) : Int) (0 : Int)) else false then (↑(List.length (w5_0_0 (70 : Nat) (g45_1 (g44_0 x1)) (g44_0 x1) (0 : Int) (1 : Int) (0 : Int) (↑(List.length (g45_1 (g44_0 x1))) : Int) (0 : Int))) : Int) == (16 : Int) else false else true
theorem c5_0 (x0 : List Row) (x1 : List Row) : r5_0 x0 x1 = g5_0 x0 x1 := by simp only [r5_0, g5_0, Bool.cond_self, bif_tf, bif_ft, Bool.not_not, List.drop_zero, List.take_length]
theorem k5 (x0 : List Row) (x1 : List Row) (h : (bytesOk x0 && (bytesOk x1 && ((Option.isSome (L38_0 (70 : Nat) (g45_1 (g159_1 x0)) (g159_0 x0) (0 : Int) (↑(List.length (g45_1 (g159_1 x0))) : Int) (0 : Int)) || bif !g160_0 (g159_0 x0) then true else !g160_0 (g159_1 x0)) && (((Option.isSome (L47_0 (List.length (g45_1 (g44_0 x1)) + (1 : Nat)) false (g45_1 (g44_0 x1)) false (g46_1 (g44_0 x1)) (↑(List.length (g45_1 (g44_0 x1))) : Int) (0 : Int)) || (↑(List.length (g45_1 (g44_0 x1))) : Int) != (↑(List.length (g46_1 (g44_0 x1))) : Int) || !g160_0 (g44_0 x1) == g162_0 (g44_0 x1)) && (Option.isSome (L5_0 (70 : Nat) (g45_1 (g44_0 x1)) (g44_0 x1) (0 : Int) (1 : Int) (0 : Int) (↑(List.length (g45_1 (g44_0 x1))) : Int) (0 : Int)) || !g160_0 (g44_0 x1) || bif !g160_0 (g44_0 x1) == g162_0 (g44_0 x1) then true else !g47_0 false (g45_1 (g44_0 x1)) false (g46_1 (g44_0 x1))) || bif g38_2 (g159_0 x0) (g159_1 x0) then bif bif bif bif bif !g40_2 (g159_0 x0) (g159_1 x0) then true else !g42_2 (g159_0 x0) (g159_1 x0) then true else g38_0 (g159_0 x0) (g159_1 x0) != g40_0 (g159_0 x0) (g159_1 x0) then true else g38_1 (g159_0 x0) (g159_1 x0) != g40_1 (g159_0 x0) (g159_1 x0) then true else IntKind.wrap IntKind.i64 (IntKind.wrap IntKind.i64 (g42_0 (g159_0 x0) (g159_1 x0) * (65536 : Int)) + g42_1 (g159_0 x0) (g159_1 x0)) != IntKind.wrap IntKind.i64 (g159_0 x0 * g159_1 x0) then true else g38_1 (g159_0 x0) (g159_1 x0) != g42_1 (g159_0 x0) (g159_1 x0) else false) || bif bif bif bif bif bif bif bif !g38_2 (g159_0 x0) (g159_1 x0) == g39_2 (g159_0 x0) (g159_1 x0) then true else g38_0 (g159_0 x0) (g159_1 x0) != g39_0 (g159_0 x0) (g159_1 x0) then true else g38_1 (g159_0 x0) (g159_1 x0) != g39_1 (g159_0 x0) (g159_1 x0) then true else !g40_2 (g159_0 x0) (g159_1 x0) == g41_2 (g159_0 x0) (g159_1 x0) then true else g40_0 (g159_0 x0) (g159_1 x0) != g41_0 (g159_0 x0) (g159_1 x0) then true else g40_1 (g159_0 x0) (g159_1 x0) != g41_1 (g159_0 x0) (g159_1 x0) then true else !g42_2 (g159_0 x0) (g159_1 x0) == g43_2 (g159_0 x0) (g159_1 x0) then true else g42_0 (g159_0 x0) (g159_1 x0) != g43_0 (g159_0 x0) (g159_1 x0) then true else g42_1 (g159_0 x0) (g159_1 x0) != g43_1 (g159_0 x0) (g159_1 x0)) || decide (IntKind.wrap IntKind.i64 ((↑(List.length x0) : Int) + (↑(List.length x1) : Int)) > (1048576 : Int))))) = true) : ((bytesOk x0 && true && ((Option.isSome (L38_0 (70 : Nat) (g45_1 (g159_1 x0)) (g159_0 x0) (0 : Int) (↑(List.length (g45_1 (g159_1 x0))) : Int) (0 : Int)) || bif !g160_0 (g159_0 x0) then true else !g160_0 (g159_1 x0)) && true && ((bytesOk x1 && true && ((decide ((0 : Nat) + List.length (g45_1 (g44_0 x1)) ≤ List.length (g45_1 (g44_0 x1))) && (decide ((0 : Nat) + List.length (g46_1 (g44_0 x1)) ≤ List.length (g46_1 (g44_0 x1))) && true) && (Option.isSome (L47_0 (List.length (List.take (List.length (g45_1 (g44_0 x1))) (List.drop (0 : Nat) (g45_1 (g44_0 x1)))) + (1 : Nat)) false (List.take (List.length (g45_1 (g44_0 x1))) (List.drop (0 : Nat) (g45_1 (g44_0 x1)))) false (List.take (List.length (g46_1 (g44_0 x1))) (List.drop (0 : Nat) (g46_1 (g44_0 x1)))) (↑(List.length (List.take (List.length (g45_1 (g44_0 x1))) (List.drop (0 : Nat) (g45_1 (g44_0 x1))))) : Int) (0 : Int)) || (↑(List.length (List.take (List.length (g45_1 (g44_0 x1))) (List.drop (0 : Nat) (g45_1 (g44_0 x1))))) : Int) != (↑(List.length (List.take (List.length (g46_1 (g44_0 x1))) (List.drop (0 : Nat) (g46_1 (g44_0 x1))))) : Int)) && true || !g160_0 (g44_0 x1) == g162_0 (g44_0 x1)) && true && true && ((decide ((0 : Nat) + List.length (g45_1 (g44_0 x1)) ≤ List.length (g45_1 (g44_0 x1))) && true && (decide (List.length (g45_1 (g44_0 x1)) = List.length (g45_1 (g44_0 x1))) && true && (decide ((0 : Nat) + List.length (g45_1 (g44_0 x1)) ≤ List.length (g45_1 (g44_0 x1))) && true && (decide (List.length (g45_1 (g44_0 x1)) = List.length (g45_1 (g44_0 x1))) && (decide (List.length (g45_1 (g44_0 x1)) = List.length (g45_1 (g44_0 x1))) && true))) && decide (List.length (g45_1 (g44_0 x1)) = List.length (List.take (List.length (g45_1 (g44_0 x1))) (List.drop (0 : Nat) (g45_1 (g44_0 x1))))) && decide (List.length (g45_1 (g44_0 x1)) = List.length (List.take (List.length (g45_1 (g44_0 x1))) (List.drop (0 : Nat) (g45_1 (g44_0 x1))))) && Option.isSome (L5_0 (70 : Nat) (List.take (List.length (g45_1 (g44_0 x1))) (List.drop (0 : Nat) (g45_1 (g44_0 x1)))) (g44_0 x1) (0 : Int) (1 : Int) (0 : Int) (↑(List.length (g45_1 (g44_0 x1))) : Int) (0 : Int))) && ((decide ((0 : Nat) + List.length (w5_0_0 (70 : Nat) (List.take (List.length (g45_1 (g44_0 x1))) (List.drop (0 : Nat) (g45_1 (g44_0 x1)))) (g44_0 x1) (0 : Int) (1 : Int) (0 : Int) (↑(List.length (g45_1 (g44_0 x1))) : Int) (0 : Int)) ≤ List.length (w5_0_0 (70 : Nat) (List.take (List.length (g45_1 (g44_0 x1))) (List.drop (0 : Nat) (g45_1 (g44_0 x1)))) (g44_0 x1) (0 : Int) (1 : Int) (0 : Int) (↑(List.length (g45_1 (g44_0 x1))) : Int) (0 : Int))) && true || !bif g151_0 (2 : Int) (w5_0_1 (70 : Nat) (List.take (List.length (g45_1 (g44_0 x1))) (List.drop (0 : Nat) (g45_1 (g44_0 x1)))) (g44_0 x1) (0 : Int) (1 : Int) (0 : Int) (↑(List.length (g45_1 (g44_0 x1))) : Int) (0 : Int)) then w5_0_2 (70 : Nat) (List.take (List.length (g45_1 (g44_0 x1))) (List.drop (0 : Nat) (g45_1 (g44_0 x1)))) (g44_0 x1) (0 : Int) (1 : Int) (0 : Int) (↑(List.length (g45_1 (g44_0 x1))) : Int) (0 : Int) == g33_0 (2 : Int) (w5_0_1 (70 : Nat) (List.take (List.length (g45_1 (g44_0 x1))) (List.drop (0 : Nat) (g45_1 (g44_0 x1)))) (g44_0 x1) (0 : Int) (1 : Int) (0 : Int) (↑(List.length (g45_1 (g44_0 x1))) : Int) (0 : Int)) else false) && true && true || intAt (w5_0_0 (70 : Nat) (List.take (List.length (g45_1 (g44_0 x1))) (List.drop (0 : Nat) (g45_1 (g44_0 x1)))) (g44_0 x1) (0 : Int) (1 : Int) (0 : Int) (↑(List.length (g45_1 (g44_0 x1))) : Int) (0 : Int)) ((0 : Nat) + Int.toNat (w5_0_6 (70 : Nat) (List.take (List.length (g45_1 (g44_0 x1))) (List.drop (0 : Nat) (g45_1 (g44_0 x1)))) (g44_0 x1) (0 : Int) (1 : Int) (0 : Int) (↑(List.length (g45_1 (g44_0 x1))) : Int) (0 : Int))) (0 : Nat) == w5_0_4 (70 : Nat) (List.take (List.length (g45_1 (g44_0 x1))) (List.drop (0 : Nat) (g45_1 (g44_0 x1)))) (g44_0 x1) (0 : Int) (1 : Int) (0 : Int) (↑(List.length (g45_1 (g44_0 x1))) : Int) (0 : Int) && intAt (w5_0_0 (70 : Nat) (List.take (List.length (g45_1 (g44_0 x1))) (List.drop (0 : Nat) (g45_1 (g44_0 x1)))) (g44_0 x1) (0 : Int) (1 : Int) (0 : Int) (↑(List.length (g45_1 (g44_0 x1))) : Int) (0 : Int)) ((0 : Nat) + Int.toNat (w5_0_6 (70 : Nat) (List.take (List.length (g45_1 (g44_0 x1))) (List.drop (0 : Nat) (g45_1 (g44_0 x1)))) (g44_0 x1) (0 : Int) (1 : Int) (0 : Int) (↑(List.length (g45_1 (g44_0 x1))) : Int) (0 : Int))) (0 : Nat) != (0 : Int) && !!decide (w5_0_6 (70 : Nat) (List.take (List.length (g45_1 (g44_0 x1))) (List.drop (0 : Nat) (g45_1 (g44_0 x1)))) (g44_0 x1) (0 : Int) (1 : Int) (0 : Int) (↑(List.length (g45_1 (g44_0 x1))) : Int) (0 : Int) < w5_0_5 (70 : Nat) (List.take (List.length (g45_1 (g44_0 x1))) (List.drop (0 : Nat) (g45_1 (g44_0 x1)))) (g44_0 x1) (0 : Int) (1 : Int) (0 : Int) (↑(List.length (g45_1 (g44_0 x1))) : Int) (0 : Int))) || !g160_0 (g44_0 x1)) && true && true || bif !g160_0 (g44_0 x1) == g162_0 (g44_0 x1) then true else !g47_0 false (List.take (List.length (g45_1 (g44_0 x1))) (List.drop (0 : Nat) (g45_1 (g44_0 x1)))) false (List.take (List.length (g46_1 (g44_0 x1))) (List.drop (0 : Nat) (g46_1 (g44_0 x1)))))) || bif g38_2 (g159_0 x0) (g159_1 x0) then bif bif bif bif bif !g40_2 (g159_0 x0) (g159_1 x0) then true else !g42_2 (g159_0 x0) (g159_1 x0) then true else g38_0 (g159_0 x0) (g159_1 x0) != g40_0 (g159_0 x0) (g159_1 x0) then true else g38_1 (g159_0 x0) (g159_1 x0) != g40_1 (g159_0 x0) (g159_1 x0) then true else IntKind.wrap IntKind.i64 (IntKind.wrap IntKind.i64 (g42_0 (g159_0 x0) (g159_1 x0) * (65536 : Int)) + g42_1 (g159_0 x0) (g159_1 x0)) != IntKind.wrap IntKind.i64 (g159_0 x0 * g159_1 x0) then true else g38_1 (g159_0 x0) (g159_1 x0) != g42_1 (g159_0 x0) (g159_1 x0) else false) || bif bif bif bif bif bif bif bif !g38_2 (g159_0 x0) (g159_1 x0) == g39_2 (g159_0 x0) (g159_1 x0) then true else g38_0 (g159_0 x0) (g159_1 x0) != g39_0 (g159_0 x0) (g159_1 x0) then true else g38_1 (g159_0 x0) (g159_1 x0) != g39_1 (g159_0 x0) (g159_1 x0) then true else !g40_2 (g159_0 x0) (g159_1 x0) == g41_2 (g159_0 x0) (g159_1 x0) then true else g40_0 (g159_0 x0) (g159_1 x0) != g41_0 (g159_0 x0) (g159_1 x0) then true else g40_1 (g159_0 x0) (g159_1 x0) != g41_1 (g159_0 x0) (g159_1 x0) then true else !g42_2 (g159_0 x0) (g159_1 x0) == g43_2 (g159_0 x0) (g159_1 x0) then true else g42_0 (g159_0 x0) (g159_1 x0) != g43_0 (g159_0 x0) (g159_1 x0) then true else g42_1 (g159_0 x0) (g159_1 x0) != g43_1 (g159_0 x0) (g159_1 x0))) || decide (IntKind.wrap IntKind.i64 ((↑(List.length x0) : Int) + (↑(List.length x1) : Int)) > (1048576 : Int))) && true) = true := by
  obtain ⟨h0, h⟩ := Bool.and_eq_true_iff.1 h
  obtain ⟨h1, h⟩ := Bool.and_eq_true_iff.1 h
  have h2 := h
  simp only [h0, h1, h2, Bool.and_true, Bool.true_and, Bool.or_true, Bool.true_or, Bool.or_false, Bool.false_or, Bool.and_self, Bool.cond_self, Bool.not_true, Bool.not_false, Bool.false_and, Bool.and_false, u64_dec, Nat.zero_add, Nat.le_refl, decide_true, eq_self, List.drop_zero, List.take_length]
theorem d5 (x0 : List Row) (x1 : List Row) : fnL Q47 [(193, [.int .i64]), (194, [.int .i64])] [] (lq5x0 70) 70 F5 [.one (.imm true 1 x0), .one (.imm true 1 x1)] [] = some ((SV.one (T.lit (Value.bool (r5_0 x0 x1))), []), (bytesOk x0 && true && ((Option.isSome (L38_0 (70 : Nat) (g45_1 (g159_1 x0)) (g159_0 x0) (0 : Int) (↑(List.length (g45_1 (g159_1 x0))) : Int) (0 : Int)) || bif !g160_0 (g159_0 x0) then true else !g160_0 (g159_1 x0)) && true && ((bytesOk x1 && true && ((decide ((0 : Nat) + List.length (g45_1 (g44_0 x1)) ≤ List.length (g45_1 (g44_0 x1))) && (decide ((0 : Nat) + List.length (g46_1 (g44_0 x1)) ≤ List.length (g46_1 (g44_0 x1))) && true) && (Option.isSome (L47_0 (List.length (List.take (List.length (g45_1 (g44_0 x1))) (List.drop (0 : Nat) (g45_1 (g44_0 x1)))) + (1 : Nat)) false (List.take (List.length (g45_1 (g44_0 x1))) (List.drop (0 : Nat) (g45_1 (g44_0 x1)))) false (List.take (List.length (g46_1 (g44_0 x1))) (List.drop (0 : Nat) (g46_1 (g44_0 x1)))) (↑(List.length (List.take (List.length (g45_1 (g44_0 x1))) (List.drop (0 : Nat) (g45_1 (g44_0 x1))))) : Int) (0 : Int)) || (↑(List.length (List.take (List.length (g45_1 (g44_0 x1))) (List.drop (0 : Nat) (g45_1 (g44_0 x1))))) : Int) != (↑(List.length (List.take (List.length (g46_1 (g44_0 x1))) (List.drop (0 : Nat) (g46_1 (g44_0 x1))))) : Int)) && true || !g160_0 (g44_0 x1) == g162_0 (g44_0 x1)) && true && true && ((decide ((0 : Nat) + List.length (g45_1 (g44_0 x1)) ≤ List.length (g45_1 (g44_0 x1))) && true && (decide (List.length (g45_1 (g44_0 x1)) = List.length (g45_1 (g44_0 x1))) && true && (decide ((0 : Nat) + List.length (g45_1 (g44_0 x1)) ≤ List.length (g45_1 (g44_0 x1))) && true && (decide (List.length (g45_1 (g44_0 x1)) = List.length (g45_1 (g44_0 x1))) && (decide (List.length (g45_1 (g44_0 x1)) = List.length (g45_1 (g44_0 x1))) && true))) && decide (List.length (g45_1 (g44_0 x1)) = List.length (List.take (List.length (g45_1 (g44_0 x1))) (List.drop (0 : Nat) (g45_1 (g44_0 x1))))) && decide (List.length (g45_1 (g44_0 x1)) = List.length (List.take (List.length (g45_1 (g44_0 x1))) (List.drop (0 : Nat) (g45_1 (g44_0 x1))))) && Option.isSome (L5_0 (70 : Nat) (List.take (List.length (g45_1 (g44_0 x1))) (List.drop (0 : Nat) (g45_1 (g44_0 x1)))) (g44_0 x1) (0 : Int) (1 : Int) (0 : Int) (↑(List.length (g45_1 (g44_0 x1))) : Int) (0 : Int))) && ((decide ((0 : Nat) + List.length (w5_0_0 (70 : Nat) (List.take (List.length (g45_1 (g44_0 x1))) (List.drop (0 : Nat) (g45_1 (g44_0 x1)))) (g44_0 x1) (0 : Int) (1 : Int) (0 : Int) (↑(List.length (g45_1 (g44_0 x1))) : Int) (0 : Int)) ≤ List.length (w5_0_0 (70 : Nat) (List.take (List.length (g45_1 (g44_0 x1))) (List.drop (0 : Nat) (g45_1 (g44_0 x1)))) (g44_0 x1) (0 : Int) (1 : Int) (0 : Int) (↑(List.length (g45_1 (g44_0 x1))) : Int) (0 : Int))) && true || !bif g151_0 (2 : Int) (w5_0_1 (70 : Nat) (List.take (List.length (g45_1 (g44_0 x1))) (List.drop (0 : Nat) (g45_1 (g44_0 x1)))) (g44_0 x1) (0 : Int) (1 : Int) (0 : Int) (↑(List.length (g45_1 (g44_0 x1))) : Int) (0 : Int)) then w5_0_2 (70 : Nat) (List.take (List.length (g45_1 (g44_0 x1))) (List.drop (0 : Nat) (g45_1 (g44_0 x1)))) (g44_0 x1) (0 : Int) (1 : Int) (0 : Int) (↑(List.length (g45_1 (g44_0 x1))) : Int) (0 : Int) == g33_0 (2 : Int) (w5_0_1 (70 : Nat) (List.take (List.length (g45_1 (g44_0 x1))) (List.drop (0 : Nat) (g45_1 (g44_0 x1)))) (g44_0 x1) (0 : Int) (1 : Int) (0 : Int) (↑(List.length (g45_1 (g44_0 x1))) : Int) (0 : Int)) else false) && true && true || intAt (w5_0_0 (70 : Nat) (List.take (List.length (g45_1 (g44_0 x1))) (List.drop (0 : Nat) (g45_1 (g44_0 x1)))) (g44_0 x1) (0 : Int) (1 : Int) (0 : Int) (↑(List.length (g45_1 (g44_0 x1))) : Int) (0 : Int)) ((0 : Nat) + Int.toNat (w5_0_6 (70 : Nat) (List.take (List.length (g45_1 (g44_0 x1))) (List.drop (0 : Nat) (g45_1 (g44_0 x1)))) (g44_0 x1) (0 : Int) (1 : Int) (0 : Int) (↑(List.length (g45_1 (g44_0 x1))) : Int) (0 : Int))) (0 : Nat) == w5_0_4 (70 : Nat) (List.take (List.length (g45_1 (g44_0 x1))) (List.drop (0 : Nat) (g45_1 (g44_0 x1)))) (g44_0 x1) (0 : Int) (1 : Int) (0 : Int) (↑(List.length (g45_1 (g44_0 x1))) : Int) (0 : Int) && intAt (w5_0_0 (70 : Nat) (List.take (List.length (g45_1 (g44_0 x1))) (List.drop (0 : Nat) (g45_1 (g44_0 x1)))) (g44_0 x1) (0 : Int) (1 : Int) (0 : Int) (↑(List.length (g45_1 (g44_0 x1))) : Int) (0 : Int)) ((0 : Nat) + Int.toNat (w5_0_6 (70 : Nat) (List.take (List.length (g45_1 (g44_0 x1))) (List.drop (0 : Nat) (g45_1 (g44_0 x1)))) (g44_0 x1) (0 : Int) (1 : Int) (0 : Int) (↑(List.length (g45_1 (g44_0 x1))) : Int) (0 : Int))) (0 : Nat) != (0 : Int) && !!decide (w5_0_6 (70 : Nat) (List.take (List.length (g45_1 (g44_0 x1))) (List.drop (0 : Nat) (g45_1 (g44_0 x1)))) (g44_0 x1) (0 : Int) (1 : Int) (0 : Int) (↑(List.length (g45_1 (g44_0 x1))) : Int) (0 : Int) < w5_0_5 (70 : Nat) (List.take (List.length (g45_1 (g44_0 x1))) (List.drop (0 : Nat) (g45_1 (g44_0 x1)))) (g44_0 x1) (0 : Int) (1 : Int) (0 : Int) (↑(List.length (g45_1 (g44_0 x1))) : Int) (0 : Int))) || !g160_0 (g44_0 x1)) && true && true || bif !g160_0 (g44_0 x1) == g162_0 (g44_0 x1) then true else !g47_0 false (List.take (List.length (g45_1 (g44_0 x1))) (List.drop (0 : Nat) (g45_1 (g44_0 x1)))) false (List.take (List.length (g46_1 (g44_0 x1))) (List.drop (0 : Nat) (g46_1 (g44_0 x1)))))) || bif g38_2 (g159_0 x0) (g159_1 x0) then bif bif bif bif bif !g40_2 (g159_0 x0) (g159_1 x0) then true else !g42_2 (g159_0 x0) (g159_1 x0) then true else g38_0 (g159_0 x0) (g159_1 x0) != g40_0 (g159_0 x0) (g159_1 x0) then true else g38_1 (g159_0 x0) (g159_1 x0) != g40_1 (g159_0 x0) (g159_1 x0) then true else IntKind.wrap IntKind.i64 (IntKind.wrap IntKind.i64 (g42_0 (g159_0 x0) (g159_1 x0) * (65536 : Int)) + g42_1 (g159_0 x0) (g159_1 x0)) != IntKind.wrap IntKind.i64 (g159_0 x0 * g159_1 x0) then true else g38_1 (g159_0 x0) (g159_1 x0) != g42_1 (g159_0 x0) (g159_1 x0) else false) || bif bif bif bif bif bif bif bif !g38_2 (g159_0 x0) (g159_1 x0) == g39_2 (g159_0 x0) (g159_1 x0) then true else g38_0 (g159_0 x0) (g159_1 x0) != g39_0 (g159_0 x0) (g159_1 x0) then true else g38_1 (g159_0 x0) (g159_1 x0) != g39_1 (g159_0 x0) (g159_1 x0) then true else !g40_2 (g159_0 x0) (g159_1 x0) == g41_2 (g159_0 x0) (g159_1 x0) then true else g40_0 (g159_0 x0) (g159_1 x0) != g41_0 (g159_0 x0) (g159_1 x0) then true else g40_1 (g159_0 x0) (g159_1 x0) != g41_1 (g159_0 x0) (g159_1 x0) then true else !g42_2 (g159_0 x0) (g159_1 x0) == g43_2 (g159_0 x0) (g159_1 x0) then true else g42_0 (g159_0 x0) (g159_1 x0) != g43_0 (g159_0 x0) (g159_1 x0) then true else g42_1 (g159_0 x0) (g159_1 x0) != g43_1 (g159_0 x0) (g159_1 x0))) || decide (IntKind.wrap IntKind.i64 ((↑(List.length x0) : Int) + (↑(List.length x1) : Int)) > (1048576 : Int))) && true) := by kernel_rfl
theorem e5 (x0 : List Row) (x1 : List Row) : fnL Q47 [(193, [.int .i64]), (194, [.int .i64])] [] (lq5x0 70) 70 F5 [.one (.imm true 1 x0), .one (.imm true 1 x1)] [] = some ((SV.one (T.lit (Value.bool (g5_0 x0 x1))), []), (bytesOk x0 && true && ((Option.isSome (L38_0 (70 : Nat) (g45_1 (g159_1 x0)) (g159_0 x0) (0 : Int) (↑(List.length (g45_1 (g159_1 x0))) : Int) (0 : Int)) || bif !g160_0 (g159_0 x0) then true else !g160_0 (g159_1 x0)) && true && ((bytesOk x1 && true && ((decide ((0 : Nat) + List.length (g45_1 (g44_0 x1)) ≤ List.length (g45_1 (g44_0 x1))) && (decide ((0 : Nat) + List.length (g46_1 (g44_0 x1)) ≤ List.length (g46_1 (g44_0 x1))) && true) && (Option.isSome (L47_0 (List.length (List.take (List.length (g45_1 (g44_0 x1))) (List.drop (0 : Nat) (g45_1 (g44_0 x1)))) + (1 : Nat)) false (List.take (List.length (g45_1 (g44_0 x1))) (List.drop (0 : Nat) (g45_1 (g44_0 x1)))) false (List.take (List.length (g46_1 (g44_0 x1))) (List.drop (0 : Nat) (g46_1 (g44_0 x1)))) (↑(List.length (List.take (List.length (g45_1 (g44_0 x1))) (List.drop (0 : Nat) (g45_1 (g44_0 x1))))) : Int) (0 : Int)) || (↑(List.length (List.take (List.length (g45_1 (g44_0 x1))) (List.drop (0 : Nat) (g45_1 (g44_0 x1))))) : Int) != (↑(List.length (List.take (List.length (g46_1 (g44_0 x1))) (List.drop (0 : Nat) (g46_1 (g44_0 x1))))) : Int)) && true || !g160_0 (g44_0 x1) == g162_0 (g44_0 x1)) && true && true && ((decide ((0 : Nat) + List.length (g45_1 (g44_0 x1)) ≤ List.length (g45_1 (g44_0 x1))) && true && (decide (List.length (g45_1 (g44_0 x1)) = List.length (g45_1 (g44_0 x1))) && true && (decide ((0 : Nat) + List.length (g45_1 (g44_0 x1)) ≤ List.length (g45_1 (g44_0 x1))) && true && (decide (List.length (g45_1 (g44_0 x1)) = List.length (g45_1 (g44_0 x1))) && (decide (List.length (g45_1 (g44_0 x1)) = List.length (g45_1 (g44_0 x1))) && true))) && decide (List.length (g45_1 (g44_0 x1)) = List.length (List.take (List.length (g45_1 (g44_0 x1))) (List.drop (0 : Nat) (g45_1 (g44_0 x1))))) && decide (List.length (g45_1 (g44_0 x1)) = List.length (List.take (List.length (g45_1 (g44_0 x1))) (List.drop (0 : Nat) (g45_1 (g44_0 x1))))) && Option.isSome (L5_0 (70 : Nat) (List.take (List.length (g45_1 (g44_0 x1))) (List.drop (0 : Nat) (g45_1 (g44_0 x1)))) (g44_0 x1) (0 : Int) (1 : Int) (0 : Int) (↑(List.length (g45_1 (g44_0 x1))) : Int) (0 : Int))) && ((decide ((0 : Nat) + List.length (w5_0_0 (70 : Nat) (List.take (List.length (g45_1 (g44_0 x1))) (List.drop (0 : Nat) (g45_1 (g44_0 x1)))) (g44_0 x1) (0 : Int) (1 : Int) (0 : Int) (↑(List.length (g45_1 (g44_0 x1))) : Int) (0 : Int)) ≤ List.length (w5_0_0 (70 : Nat) (List.take (List.length (g45_1 (g44_0 x1))) (List.drop (0 : Nat) (g45_1 (g44_0 x1)))) (g44_0 x1) (0 : Int) (1 : Int) (0 : Int) (↑(List.length (g45_1 (g44_0 x1))) : Int) (0 : Int))) && true || !bif g151_0 (2 : Int) (w5_0_1 (70 : Nat) (List.take (List.length (g45_1 (g44_0 x1))) (List.drop (0 : Nat) (g45_1 (g44_0 x1)))) (g44_0 x1) (0 : Int) (1 : Int) (0 : Int) (↑(List.length (g45_1 (g44_0 x1))) : Int) (0 : Int)) then w5_0_2 (70 : Nat) (List.take (List.length (g45_1 (g44_0 x1))) (List.drop (0 : Nat) (g45_1 (g44_0 x1)))) (g44_0 x1) (0 : Int) (1 : Int) (0 : Int) (↑(List.length (g45_1 (g44_0 x1))) : Int) (0 : Int) == g33_0 (2 : Int) (w5_0_1 (70 : Nat) (List.take (List.length (g45_1 (g44_0 x1))) (List.drop (0 : Nat) (g45_1 (g44_0 x1)))) (g44_0 x1) (0 : Int) (1 : Int) (0 : Int) (↑(List.length (g45_1 (g44_0 x1))) : Int) (0 : Int)) else false) && true && true || intAt (w5_0_0 (70 : Nat) (List.take (List.length (g45_1 (g44_0 x1))) (List.drop (0 : Nat) (g45_1 (g44_0 x1)))) (g44_0 x1) (0 : Int) (1 : Int) (0 : Int) (↑(List.length (g45_1 (g44_0 x1))) : Int) (0 : Int)) ((0 : Nat) + Int.toNat (w5_0_6 (70 : Nat) (List.take (List.length (g45_1 (g44_0 x1))) (List.drop (0 : Nat) (g45_1 (g44_0 x1)))) (g44_0 x1) (0 : Int) (1 : Int) (0 : Int) (↑(List.length (g45_1 (g44_0 x1))) : Int) (0 : Int))) (0 : Nat) == w5_0_4 (70 : Nat) (List.take (List.length (g45_1 (g44_0 x1))) (List.drop (0 : Nat) (g45_1 (g44_0 x1)))) (g44_0 x1) (0 : Int) (1 : Int) (0 : Int) (↑(List.length (g45_1 (g44_0 x1))) : Int) (0 : Int) && intAt (w5_0_0 (70 : Nat) (List.take (List.length (g45_1 (g44_0 x1))) (List.drop (0 : Nat) (g45_1 (g44_0 x1)))) (g44_0 x1) (0 : Int) (1 : Int) (0 : Int) (↑(List.length (g45_1 (g44_0 x1))) : Int) (0 : Int)) ((0 : Nat) + Int.toNat (w5_0_6 (70 : Nat) (List.take (List.length (g45_1 (g44_0 x1))) (List.drop (0 : Nat) (g45_1 (g44_0 x1)))) (g44_0 x1) (0 : Int) (1 : Int) (0 : Int) (↑(List.length (g45_1 (g44_0 x1))) : Int) (0 : Int))) (0 : Nat) != (0 : Int) && !!decide (w5_0_6 (70 : Nat) (List.take (List.length (g45_1 (g44_0 x1))) (List.drop (0 : Nat) (g45_1 (g44_0 x1)))) (g44_0 x1) (0 : Int) (1 : Int) (0 : Int) (↑(List.length (g45_1 (g44_0 x1))) : Int) (0 : Int) < w5_0_5 (70 : Nat) (List.take (List.length (g45_1 (g44_0 x1))) (List.drop (0 : Nat) (g45_1 (g44_0 x1)))) (g44_0 x1) (0 : Int) (1 : Int) (0 : Int) (↑(List.length (g45_1 (g44_0 x1))) : Int) (0 : Int))) || !g160_0 (g44_0 x1)) && true && true || bif !g160_0 (g44_0 x1) == g162_0 (g44_0 x1) then true else !g47_0 false (List.take (List.length (g45_1 (g44_0 x1))) (List.drop (0 : Nat) (g45_1 (g44_0 x1)))) false (List.take (List.length (g46_1 (g44_0 x1))) (List.drop (0 : Nat) (g46_1 (g44_0 x1)))))) || bif g38_2 (g159_0 x0) (g159_1 x0) then bif bif bif bif bif !g40_2 (g159_0 x0) (g159_1 x0) then true else !g42_2 (g159_0 x0) (g159_1 x0) then true else g38_0 (g159_0 x0) (g159_1 x0) != g40_0 (g159_0 x0) (g159_1 x0) then true else g38_1 (g159_0 x0) (g159_1 x0) != g40_1 (g159_0 x0) (g159_1 x0) then true else IntKind.wrap IntKind.i64 (IntKind.wrap IntKind.i64 (g42_0 (g159_0 x0) (g159_1 x0) * (65536 : Int)) + g42_1 (g159_0 x0) (g159_1 x0)) != IntKind.wrap IntKind.i64 (g159_0 x0 * g159_1 x0) then true else g38_1 (g159_0 x0) (g159_1 x0) != g42_1 (g159_0 x0) (g159_1 x0) else false) || bif bif bif bif bif bif bif bif !g38_2 (g159_0 x0) (g159_1 x0) == g39_2 (g159_0 x0) (g159_1 x0) then true else g38_0 (g159_0 x0) (g159_1 x0) != g39_0 (g159_0 x0) (g159_1 x0) then true else g38_1 (g159_0 x0) (g159_1 x0) != g39_1 (g159_0 x0) (g159_1 x0) then true else !g40_2 (g159_0 x0) (g159_1 x0) == g41_2 (g159_0 x0) (g159_1 x0) then true else g40_0 (g159_0 x0) (g159_1 x0) != g41_0 (g159_0 x0) (g159_1 x0) then true else g40_1 (g159_0 x0) (g159_1 x0) != g41_1 (g159_0 x0) (g159_1 x0) then true else !g42_2 (g159_0 x0) (g159_1 x0) == g43_2 (g159_0 x0) (g159_1 x0) then true else g42_0 (g159_0 x0) (g159_1 x0) != g43_0 (g159_0 x0) (g159_1 x0) then true else g42_1 (g159_0 x0) (g159_1 x0) != g43_1 (g159_0 x0) (g159_1 x0))) || decide (IntKind.wrap IntKind.i64 ((↑(List.length x0) : Int) + (↑(List.length x1) : Int)) > (1048576 : Int))) && true) := by rw [d5, c5_0]
def q5 : List SV → List Blk → Option ((SV × List Blk) × Bool)
  | [.one (.imm true 1 x0), .one (.imm true 1 x1)], [] => some ((SV.one (T.lit (Value.bool (g5_0 x0 x1))), []), bytesOk x0 && (bytesOk x1 && ((Option.isSome (L38_0 (70 : Nat) (g45_1 (g159_1 x0)) (g159_0 x0) (0 : Int) (↑(List.length (g45_1 (g159_1 x0))) : Int) (0 : Int)) || bif !g160_0 (g159_0 x0) then true else !g160_0 (g159_1 x0)) && (((Option.isSome (L47_0 (List.length (g45_1 (g44_0 x1)) + (1 : Nat)) false (g45_1 (g44_0 x1)) false (g46_1 (g44_0 x1)) (↑(List.length (g45_1 (g44_0 x1))) : Int) (0 : Int)) || (↑(List.length (g45_1 (g44_0 x1))) : Int) != (↑(List.length (g46_1 (g44_0 x1))) : Int) || !g160_0 (g44_0 x1) == g162_0 (g44_0 x1)) && (Option.isSome (L5_0 (70 : Nat) (g45_1 (g44_0 x1)) (g44_0 x1) (0 : Int) (1 : Int) (0 : Int) (↑(List.length (g45_1 (g44_0 x1))) : Int) (0 : Int)) || !g160_0 (g44_0 x1) || bif !g160_0 (g44_0 x1) == g162_0 (g44_0 x1) then true else !g47_0 false (g45_1 (g44_0 x1)) false (g46_1 (g44_0 x1))) || bif g38_2 (g159_0 x0) (g159_1 x0) then bif bif bif bif bif !g40_2 (g159_0 x0) (g159_1 x0) then true else !g42_2 (g159_0 x0) (g159_1 x0) then true else g38_0 (g159_0 x0) (g159_1 x0) != g40_0 (g159_0 x0) (g159_1 x0) then true else g38_1 (g159_0 x0) (g159_1 x0) != g40_1 (g159_0 x0) (g159_1 x0) then true else IntKind.wrap IntKind.i64 (IntKind.wrap IntKind.i64 (g42_0 (g159_0 x0) (g159_1 x0) * (65536 : Int)) + g42_1 (g159_0 x0) (g159_1 x0)) != IntKind.wrap IntKind.i64 (g159_0 x0 * g159_1 x0) then true else g38_1 (g159_0 x0) (g159_1 x0) != g42_1 (g159_0 x0) (g159_1 x0) else false) || bif bif bif bif bif bif bif bif !g38_2 (g159_0 x0) (g159_1 x0) == g39_2 (g159_0 x0) (g159_1 x0) then true else g38_0 (g159_0 x0) (g159_1 x0) != g39_0 (g159_0 x0) (g159_1 x0) then true else g38_1 (g159_0 x0) (g159_1 x0) != g39_1 (g159_0 x0) (g159_1 x0) then true else !g40_2 (g159_0 x0) (g159_1 x0) == g41_2 (g159_0 x0) (g159_1 x0) then true else g40_0 (g159_0 x0) (g159_1 x0) != g41_0 (g159_0 x0) (g159_1 x0) then true else g40_1 (g159_0 x0) (g159_1 x0) != g41_1 (g159_0 x0) (g159_1 x0) then true else !g42_2 (g159_0 x0) (g159_1 x0) == g43_2 (g159_0 x0) (g159_1 x0) then true else g42_0 (g159_0 x0) (g159_1 x0) != g43_0 (g159_0 x0) (g159_1 x0) then true else g42_1 (g159_0 x0) (g159_1 x0) != g43_1 (g159_0 x0) (g159_1 x0)) || decide (IntKind.wrap IntKind.i64 ((↑(List.length x0) : Int) + (↑(List.length x1) : Int)) > (1048576 : Int)))))
  | _, _ => none
theorem t5 (args : List SV) (hp : List Blk) (r : SV × List Blk) (h : q5 args hp = some (r, true)) : R 5 args hp = some r := by
  unfold q5 at h
  split at h
  · rename_i x0 x1; exact R_fn at5 70 (fnL_run Q47_ok (by simp only [F5, F5r16, F5r15, F5r14, F5r13, F5r12, F5r11, F5r10, F5r9, F5r8, F5r7, F5r6, F5r5, F5r4, F5r3, F5r2, F5r1, F5b0, Loops, true_and, and_true]; first | trivial | (repeat' apply And.intro) <;> first | trivial  | exact fun σ σr o h hl => lt5_0 _ σ σr o h hl) (okTrans (e5 x0 x1) (k5 x0 x1) h))
  · simp at h
noncomputable def Q5 : Qt := qcons 5 q5 Q47
theorem Q5_ok : QOk R Q5 := qcons_ok t5 Q47_ok
end Go.Proofs.YtckjibiolfapiaaProducts
