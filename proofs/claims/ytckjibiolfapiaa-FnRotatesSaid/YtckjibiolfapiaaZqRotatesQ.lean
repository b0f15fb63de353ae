/- What each function gives, and that it does. Printed. -/
import Derived.Test.YtckjibiolfapiaaZqTabRotates
import Derived.Test.YtckjibiolfapiaaZqCur
import Derived.KernelRfl
import Derived.Test.YtckjibiolfapiaaZqRotatesR
set_option linter.unusedVariables false
set_option linter.unusedSimpArgs false
namespace Go.Proofs.YtckjibiolfapiaaRotates
open Go Go.Zq
set_option maxRecDepth 100000
/-! impl.within -/
def g142_0 (x0 : Int) (x1 : Int) (x2 : Int) : Bool := bif decide (x0 ≥ x1) then decide (x0 ≤ x2) else false
theorem e142 (x0 : Int) (x1 : Int) (x2 : Int) : fnT qnil [] [] 0 F142 [.one (.lit (.int .i64 x0)), .one (.lit (.int .i64 x1)), .one (.lit (.int .i64 x2))] [] = some ((SV.one (T.lit (Value.bool (g142_0 x0 x1 x2))), []), true) := by kernel_rfl
def q142 : List SV → List Blk → Option ((SV × List Blk) × Bool)
  | [.one (.lit (.int .i64 x0)), .one (.lit (.int .i64 x1)), .one (.lit (.int .i64 x2))], [] => some ((SV.one (T.lit (Value.bool (g142_0 x0 x1 x2))), []), true)
  | _, _ => none
theorem t142 (args : List SV) (hp : List Blk) (r : SV × List Blk) (h : q142 args hp = some (r, true)) : R 142 args hp = some r := by
  unfold q142 at h
  split at h
  · rename_i x0 x1 x2; exact R_fn at142 0 (fnT_run qnil_ok ((e142 x0 x1 x2).trans h))
  · simp at h
noncomputable def Q142 : Qt := qcons 142 q142 qnil
theorem Q142_ok : QOk R Q142 := qcons_ok t142 qnil_ok
/-! impl.isSize -/
def g198_0 (x0 : Int) : Bool := bif x0 == (1 : Int) then true else x0 == (2 : Int)
theorem e198 (x0 : Int) : fnT Q142 [] [] 0 F198 [.one (.lit (.int .i64 x0))] [] = some ((SV.one (T.lit (Value.bool (g198_0 x0))), []), true) := by kernel_rfl
def q198 : List SV → List Blk → Option ((SV × List Blk) × Bool)
  | [.one (.lit (.int .i64 x0))], [] => some ((SV.one (T.lit (Value.bool (g198_0 x0))), []), true)
  | _, _ => none
theorem t198 (args : List SV) (hp : List Blk) (r : SV × List Blk) (h : q198 args hp = some (r, true)) : R 198 args hp = some r := by
  unfold q198 at h
  split at h
  · rename_i x0; exact R_fn at198 0 (fnT_run Q142_ok ((e198 x0).trans h))
  · simp at h
noncomputable def Q198 : Qt := qcons 198 q198 Q142
theorem Q198_ok : QOk R Q198 := qcons_ok t198 Q142_ok
theorem size_iff {s : Int} : g198_0 s = true ↔ s = 1 ∨ s = 2 := by
  unfold g198_0
  cases h : s == 1 <;> simp_all
theorem size_pos {s : Int} (h : g198_0 s = true) : 0 ≤ IntKind.wrap IntKind.i64 (8 * s) := by
  rcases size_iff.1 h with rfl | rfl <;> decide
/-! impl.limitOf -/
def g218_0 (x0 : Int) : Int := IntKind.wrap IntKind.i64 ((1 : Int) * (2 : Int) ^ min (Int.toNat (IntKind.wrap IntKind.i64 ((8 : Int) * x0))) (64 : Nat))
theorem k218 (x0 : Int) (h : (decide ((0 : Int) ≤ IntKind.wrap IntKind.i64 ((8 : Int) * x0))) = true) : (decide ((0 : Int) ≤ IntKind.wrap IntKind.i64 ((8 : Int) * x0)) && true && true && true) = true := by
  have h0 := h
  simp only [h0, Bool.and_true, Bool.true_and, Bool.or_true, Bool.true_or, Bool.or_false, Bool.false_or, Bool.and_self, Bool.cond_self, Bool.not_true, Bool.not_false, Bool.false_and, Bool.and_false, u64_dec, Nat.zero_add, Nat.le_refl, decide_true, eq_self, List.drop_zero, List.take_length, Bool.not_not, bif_tf, bif_ft]
theorem e218 (x0 : Int) : fnT Q198 [] [] 0 F218 [.one (.lit (.int .i64 x0))] [] = some ((SV.one (T.lit (Value.int IntKind.i64 (g218_0 x0))), []), decide ((0 : Int) ≤ IntKind.wrap IntKind.i64 ((8 : Int) * x0)) && true && true && true) := by kernel_rfl
def q218 : List SV → List Blk → Option ((SV × List Blk) × Bool)
  | [.one (.lit (.int .i64 x0))], [] => some ((SV.one (T.lit (Value.int IntKind.i64 (g218_0 x0))), []), decide ((0 : Int) ≤ IntKind.wrap IntKind.i64 ((8 : Int) * x0)))
  | _, _ => none
theorem t218 (args : List SV) (hp : List Blk) (r : SV × List Blk) (h : q218 args hp = some (r, true)) : R 218 args hp = some r := by
  unfold q218 at h
  split at h
  · rename_i x0; exact R_fn at218 0 (fnT_run Q198_ok (okTrans (e218 x0) (k218 x0) h))
  · simp at h
noncomputable def Q218 : Qt := qcons 218 q218 Q198
theorem Q218_ok : QOk R Q218 := qcons_ok t218 Q198_ok
/-! impl.isValue -/
def g151_0 (x0 : Int) (x1 : Int) : Bool := bif g198_0 x0 then g142_0 x1 (0 : Int) (IntKind.wrap IntKind.i64 (g218_0 x0 - (1 : Int))) else false
theorem k151 (x0 : Int) (x1 : Int) (h : (true) = true) : ((decide ((0 : Int) ≤ IntKind.wrap IntKind.i64 ((8 : Int) * x0)) && true || !g198_0 x0) && true && true && true) = true := by
  cases hs : g198_0 x0
  · simp
  · simp [size_pos hs]
theorem e151 (x0 : Int) (x1 : Int) : fnT Q218 [] [] 0 F151 [.one (.lit (.int .i64 x0)), .one (.lit (.int .i64 x1))] [] = some ((SV.one (T.lit (Value.bool (g151_0 x0 x1))), []), (decide ((0 : Int) ≤ IntKind.wrap IntKind.i64 ((8 : Int) * x0)) && true || !g198_0 x0) && true && true && true) := by kernel_rfl
def q151 : List SV → List Blk → Option ((SV × List Blk) × Bool)
  | [.one (.lit (.int .i64 x0)), .one (.lit (.int .i64 x1))], [] => some ((SV.one (T.lit (Value.bool (g151_0 x0 x1))), []), true)
  | _, _ => none
theorem t151 (args : List SV) (hp : List Blk) (r : SV × List Blk) (h : q151 args hp = some (r, true)) : R 151 args hp = some r := by
  unfold q151 at h
  split at h
  · rename_i x0 x1; exact R_fn at151 0 (fnT_run Q218_ok (okTrans (e151 x0 x1) (k151 x0 x1) h))
  · simp at h
noncomputable def Q151 : Qt := qcons 151 q151 Q218
theorem Q151_ok : QOk R Q151 := qcons_ok t151 Q218_ok
/-! impl.CountOnes -/
def s60_0 (v0 : Int) (v1 : Int) : St := ⟨[(1, .one (.lit (.int .i64 v0))), (6, .one (.lit (.int .i64 v1)))], []⟩
def x60_0 (v0 : Int) (v1 : Int) : List (Ex × Bool × Tr) := [(Ex.brk (0 : Nat), !decide (v0 > (0 : Int)), Tr.leaf { sl := [((1 : Nat), SV.one (T.lit (Value.int IntKind.i64 v0))), ((6 : Nat), SV.one (T.lit (Value.int IntKind.i64 v1))), ((12 : Nat), SV.one (T.lit (Value.bool (decide (v0 > (0 : Int))))))], hp := [] })]
def u60_0 (v0 : Int) (v1 : Int) : St := { sl := [((1 : Nat), SV.one (T.lit (Value.int IntKind.i64 (Int.fdiv v0 (2 : Int))))), ((6 : Nat), SV.one (T.lit (Value.int IntKind.i64 (IntKind.wrap IntKind.i64 (v1 + IntKind.wrap IntKind.i64 (↑(BitVec.toNat (BitVec.ofInt (64 : Nat) v0 &&& BitVec.ofInt (64 : Nat) (1 : Int))) : Int))))))], hp := [] }
def y60_0 (v0 : Int) (v1 : Int) : Bool := true
def z60_0 (v0 : Int) (v1 : Int) : Bool := ((!decide (v0 > (0 : Int))) || false)
def L60_0 : Nat → Int → Int → Option (Int × Int)
  | 0, _, _ => none
  | k + 1, v0, v1 => bif y60_0 v0 v1 then bif z60_0 v0 v1 then some (v0, v1) else L60_0 k (Int.fdiv v0 (2 : Int)) (IntKind.wrap IntKind.i64 (v1 + IntKind.wrap IntKind.i64 (↑(BitVec.toNat (BitVec.ofInt (64 : Nat) v0 &&& BitVec.ofInt (64 : Nat) (1 : Int))) : Int))) else none
theorem hb60_0 (n : Nat) (v0 : Int) (v1 : Int) : Go.Zq.evt Q151 [] [] lqN 0 n F60b0 (s60_0 v0 v1) = some (⟨x60_0 v0 v1, some (.leaf (u60_0 v0 v1))⟩, y60_0 v0 v1) := by kernel_rfl
theorem hc60_0 (v0 : Int) (v1 : Int) : canonS 0 [1, 6] (u60_0 v0 v1) = some (s60_0 (Int.fdiv v0 (2 : Int)) (IntKind.wrap IntKind.i64 (v1 + IntKind.wrap IntKind.i64 (↑(BitVec.toNat (BitVec.ofInt (64 : Nat) v0 &&& BitVec.ofInt (64 : Nat) (1 : Int))) : Int))), true) := by
  kernel_rfl
def w60_0_0 (n : Nat) (v0 : Int) (v1 : Int) : Int := ((L60_0 n v0 v1).getD (default, default)).1
def w60_0_1 (n : Nat) (v0 : Int) (v1 : Int) : Int := ((L60_0 n v0 v1).getD (default, default)).2
def lq60_0 (n : Nat) (σ : St) : Option (O × Bool) :=
  match canonS 0 [1, 6] σ with
  | some (⟨[(1, .one (.lit (.int .i64 v0))), (6, .one (.lit (.int .i64 v1)))], []⟩, c) => some (⟨x60_0 (w60_0_0 n v0 v1) (w60_0_1 n v0 v1), none⟩, (c) && (L60_0 n v0 v1).isSome)
  | _ => none
theorem lt60_0 (n : Nat) : Tells (lq60_0 n) (evc R 0 n (.loop [1, 6] F60b0)) := fun σ σr o h hl => by
  unfold lq60_0 at h
  split at h
  · rename_i v0 v1 c hs
    exact lq_tells (V := Int × Int) (f := Go.Zq.evt Q151 [] [] lqN 0 n F60b0) (st := fun v => s60_0 v.1 v.2) (ν := fun v => u60_0 v.1 v.2) (ob := (fun v => ⟨x60_0 v.1 v.2, some (.leaf (u60_0 v.1 v.2))⟩)) (okb := fun v => y60_0 v.1 v.2) (next := fun v => (fun v0 v1 => (Int.fdiv v0 (2 : Int), IntKind.wrap IntKind.i64 (v1 + IntKind.wrap IntKind.i64 (↑(BitVec.toNat (BitVec.ofInt (64 : Nat) v0 &&& BitVec.ofInt (64 : Nat) (1 : Int))) : Int)))) v.1 v.2)
      (evt_tells Q151_ok (by simp only [F60, F60b0, Loops, and_self, and_true])) (fun v => hb60_0 n v.1 v.2) (fun _ => rfl) (fun v _ _ => hc60_0 v.1 v.2) (L := fun k v => L60_0 k v.1 v.2) (fun _ => rfl) (fun _ _ => rfl) (v := (v0, v1)) (d := (default, default)) hs h hl
  · simp at h
def lq60x0 (n : Nat) : Lq := fun live σ => if live = [1, 6] then lq60_0 n σ else none
def g60_0 (x0 : Int) (x1 : Int) : Int := bif !g151_0 x0 x1 then (0 : Int) else w60_0_1 (70 : Nat) x1 (0 : Int)
def r60_1 (x0 : Int) (x1 : Int) : Bool := bif !g151_0 x0 x1 then false else true
theorem c60_1 (x0 : Int) (x1 : Int) : r60_1 x0 x1 = g151_0 x0 x1 := by simp only [r60_1, Bool.cond_self, bif_tf, bif_ft, Bool.not_not, List.drop_zero, List.take_length]
theorem k60 (x0 : Int) (x1 : Int) (h : (Option.isSome (L60_0 (70 : Nat) x1 (0 : Int)) || !g151_0 x0 x1) = true) : ((Option.isSome (L60_0 (70 : Nat) x1 (0 : Int)) && true || !g151_0 x0 x1) && true) = true := by
  have h0 := h
  simp only [h0, Bool.and_true, Bool.true_and, Bool.or_true, Bool.true_or, Bool.or_false, Bool.false_or, Bool.and_self, Bool.cond_self, Bool.not_true, Bool.not_false, Bool.false_and, Bool.and_false, u64_dec, Nat.zero_add, Nat.le_refl, decide_true, eq_self, List.drop_zero, List.take_length, Bool.not_not, bif_tf, bif_ft]
theorem d60 (x0 : Int) (x1 : Int) : fnL Q151 [] [] (lq60x0 70) 70 F60 [.one (.lit (.int .i64 x0)), .one (.lit (.int .i64 x1))] [] = some ((SV.tup [SV.one (T.lit (Value.int IntKind.i64 (g60_0 x0 x1))), SV.one (T.lit (Value.bool (r60_1 x0 x1)))], []), (Option.isSome (L60_0 (70 : Nat) x1 (0 : Int)) && true || !g151_0 x0 x1) && true) := by kernel_rfl
theorem e60 (x0 : Int) (x1 : Int) : fnL Q151 [] [] (lq60x0 70) 70 F60 [.one (.lit (.int .i64 x0)), .one (.lit (.int .i64 x1))] [] = some ((SV.tup [SV.one (T.lit (Value.int IntKind.i64 (g60_0 x0 x1))), SV.one (T.lit (Value.bool (g151_0 x0 x1)))], []), (Option.isSome (L60_0 (70 : Nat) x1 (0 : Int)) && true || !g151_0 x0 x1) && true) := by rw [d60, c60_1]
def q60 : List SV → List Blk → Option ((SV × List Blk) × Bool)
  | [.one (.lit (.int .i64 x0)), .one (.lit (.int .i64 x1))], [] => some ((SV.tup [SV.one (T.lit (Value.int IntKind.i64 (g60_0 x0 x1))), SV.one (T.lit (Value.bool (g151_0 x0 x1)))], []), Option.isSome (L60_0 (70 : Nat) x1 (0 : Int)) || !g151_0 x0 x1)
  | _, _ => none
theorem t60 (args : List SV) (hp : List Blk) (r : SV × List Blk) (h : q60 args hp = some (r, true)) : R 60 args hp = some r := by
  unfold q60 at h
  split at h
  · rename_i x0 x1; exact R_fn at60 70 (fnL_run Q151_ok (by simp only [F60, F60b0, Loops, true_and, and_true]; first | trivial | (repeat' apply And.intro) <;> first | trivial  | exact fun σ σr o h hl => lt60_0 _ σ σr o h hl) (okTrans (e60 x0 x1) (k60 x0 x1) h))
  · simp at h
noncomputable def Q60 : Qt := qcons 60 q60 Q151
theorem Q60_ok : QOk R Q60 := qcons_ok t60 Q151_ok
/-! impl.areFlags -/
def g183_0 (x0 : Int) : Bool := g142_0 x0 (0 : Int) (31 : Int)
theorem e183 (x0 : Int) : fnT Q60 [] [] 0 F183 [.one (.lit (.int .i64 x0))] [] = some ((SV.one (T.lit (Value.bool (g183_0 x0))), []), true) := by kernel_rfl
def q183 : List SV → List Blk → Option ((SV × List Blk) × Bool)
  | [.one (.lit (.int .i64 x0))], [] => some ((SV.one (T.lit (Value.bool (g183_0 x0))), []), true)
  | _, _ => none
theorem t183 (args : List SV) (hp : List Blk) (r : SV × List Blk) (h : q183 args hp = some (r, true)) : R 183 args hp = some r := by
  unfold q183 at h
  split at h
  · rename_i x0; exact R_fn at183 0 (fnT_run Q60_ok ((e183 x0).trans h))
  · simp at h
noncomputable def Q183 : Qt := qcons 183 q183 Q60
theorem Q183_ok : QOk R Q183 := qcons_ok t183 Q60_ok
/-! impl.isShift -/
def g172_0 (x0 : Int) (x1 : Int) (x2 : Int) (x3 : Int) : Bool := bif bif g142_0 x0 (0 : Int) (7 : Int) then g183_0 x2 else false then g151_0 x1 x3 else false
theorem e172 (x0 : Int) (x1 : Int) (x2 : Int) (x3 : Int) : fnT Q183 [] [] 0 F172 [.one (.lit (.int .i64 x0)), .one (.lit (.int .i64 x1)), .one (.lit (.int .i64 x2)), .one (.lit (.int .i64 x3))] [] = some ((SV.one (T.lit (Value.bool (g172_0 x0 x1 x2 x3))), []), true) := by kernel_rfl
def q172 : List SV → List Blk → Option ((SV × List Blk) × Bool)
  | [.one (.lit (.int .i64 x0)), .one (.lit (.int .i64 x1)), .one (.lit (.int .i64 x2)), .one (.lit (.int .i64 x3))], [] => some ((SV.one (T.lit (Value.bool (g172_0 x0 x1 x2 x3))), []), true)
  | _, _ => none
theorem t172 (args : List SV) (hp : List Blk) (r : SV × List Blk) (h : q172 args hp = some (r, true)) : R 172 args hp = some r := by
  unfold q172 at h
  split at h
  · rename_i x0 x1 x2 x3; exact R_fn at172 0 (fnT_run Q183_ok ((e172 x0 x1 x2 x3).trans h))
  · simp at h
noncomputable def Q172 : Qt := qcons 172 q172 Q183
theorem Q172_ok : QOk R Q172 := qcons_ok t172 Q183_ok
/-! impl.isLeft -/
def g178_0 (x0 : Int) : Bool := Int.tmod x0 (2 : Int) == (0 : Int)
theorem e178 (x0 : Int) : fnT Q172 [] [] 0 F178 [.one (.lit (.int .i64 x0))] [] = some ((SV.one (T.lit (Value.bool (g178_0 x0))), []), true) := by kernel_rfl
def q178 : List SV → List Blk → Option ((SV × List Blk) × Bool)
  | [.one (.lit (.int .i64 x0))], [] => some ((SV.one (T.lit (Value.bool (g178_0 x0))), []), true)
  | _, _ => none
theorem t178 (args : List SV) (hp : List Blk) (r : SV × List Blk) (h : q178 args hp = some (r, true)) : R 178 args hp = some r := by
  unfold q178 at h
  split at h
  · rename_i x0; exact R_fn at178 0 (fnT_run Q172_ok ((e178 x0).trans h))
  · simp at h
noncomputable def Q178 : Qt := qcons 178 q178 Q172
theorem Q178_ok : QOk R Q178 := qcons_ok t178 Q172_ok
/-! impl.flag -/
def g224_0 (x0 : Bool) (x1 : Int) : Int := bif x0 then x1 else (0 : Int)
theorem e224 (x0 : Bool) (x1 : Int) : fnT Q178 [] [] 0 F224 [.one (.lit (.bool x0)), .one (.lit (.int .i64 x1))] [] = some ((SV.one (T.lit (Value.int IntKind.i64 (g224_0 x0 x1))), []), true) := by kernel_rfl
def q224 : List SV → List Blk → Option ((SV × List Blk) × Bool)
  | [.one (.lit (.bool x0)), .one (.lit (.int .i64 x1))], [] => some ((SV.one (T.lit (Value.int IntKind.i64 (g224_0 x0 x1))), []), true)
  | _, _ => none
theorem t224 (args : List SV) (hp : List Blk) (r : SV × List Blk) (h : q224 args hp = some (r, true)) : R 224 args hp = some r := by
  unfold q224 at h
  split at h
  · rename_i x0 x1; exact R_fn at224 0 (fnT_run Q178_ok ((e224 x0 x1).trans h))
  · simp at h
noncomputable def Q224 : Qt := qcons 224 q224 Q178
theorem Q224_ok : QOk R Q224 := qcons_ok t224 Q178_ok
/-! impl.signs -/
def g225_0 (x0 : Int) (x1 : Int) : Int := IntKind.wrap IntKind.i64 (↑(BitVec.toNat (BitVec.ofInt (64 : Nat) (g224_0 (x1 == (0 : Int)) (4 : Int)) ||| BitVec.ofInt (64 : Nat) (g224_0 (decide (x1 ≥ IntKind.wrap IntKind.i64 (Int.tdiv (g218_0 x0) (2 : Int)))) (8 : Int)))) : Int)
theorem k225 (x0 : Int) (x1 : Int) (h : (decide ((0 : Int) ≤ IntKind.wrap IntKind.i64 ((8 : Int) * x0))) = true) : (decide ((0 : Int) ≤ IntKind.wrap IntKind.i64 ((8 : Int) * x0)) && true && true && true) = true := by
  have h0 := h
  simp only [h0, Bool.and_true, Bool.true_and, Bool.or_true, Bool.true_or, Bool.or_false, Bool.false_or, Bool.and_self, Bool.cond_self, Bool.not_true, Bool.not_false, Bool.false_and, Bool.and_false, u64_dec, Nat.zero_add, Nat.le_refl, decide_true, eq_self, List.drop_zero, List.take_length, Bool.not_not, bif_tf, bif_ft]
theorem e225 (x0 : Int) (x1 : Int) : fnT Q224 [] [] 0 F225 [.one (.lit (.int .i64 x0)), .one (.lit (.int .i64 x1))] [] = some ((SV.one (T.lit (Value.int IntKind.i64 (g225_0 x0 x1))), []), decide ((0 : Int) ≤ IntKind.wrap IntKind.i64 ((8 : Int) * x0)) && true && true && true) := by kernel_rfl
def q225 : List SV → List Blk → Option ((SV × List Blk) × Bool)
  | [.one (.lit (.int .i64 x0)), .one (.lit (.int .i64 x1))], [] => some ((SV.one (T.lit (Value.int IntKind.i64 (g225_0 x0 x1))), []), decide ((0 : Int) ≤ IntKind.wrap IntKind.i64 ((8 : Int) * x0)))
  | _, _ => none
theorem t225 (args : List SV) (hp : List Blk) (r : SV × List Blk) (h : q225 args hp = some (r, true)) : R 225 args hp = some r := by
  unfold q225 at h
  split at h
  · rename_i x0 x1; exact R_fn at225 0 (fnT_run Q224_ok (okTrans (e225 x0 x1) (k225 x0 x1) h))
  · simp at h
noncomputable def Q225 : Qt := qcons 225 q225 Q224
theorem Q225_ok : QOk R Q225 := qcons_ok t225 Q224_ok
/-! impl.coming -/
def g226_0 (x0 : Int) (x1 : Int) (x2 : Int) (x3 : Int) (x4 : Int) : Int := bif x0 == (1 : Int) then Int.fdiv x3 ((2 : Int) ^ min (Int.toNat (IntKind.wrap IntKind.i64 (IntKind.wrap IntKind.i64 ((8 : Int) * x1) - (1 : Int)))) (64 : Nat)) else bif (bif x0 == (4 : Int) then x0 == (4 : Int) else x0 == (5 : Int)) && !x0 == (1 : Int) then x4 else bif ((bif x0 == (6 : Int) then x0 == (6 : Int) else x0 == (7 : Int)) && !bif x0 == (4 : Int) then x0 == (4 : Int) else x0 == (5 : Int)) && !x0 == (1 : Int) then IntKind.wrap IntKind.i64 (Int.tdiv x2 (16 : Int)) else (0 : Int)
theorem k226 (x0 : Int) (x1 : Int) (x2 : Int) (x3 : Int) (x4 : Int) (h : (decide ((0 : Int) ≤ IntKind.wrap IntKind.i64 (IntKind.wrap IntKind.i64 ((8 : Int) * x1) - (1 : Int))) || !x0 == (1 : Int)) = true) : ((decide ((0 : Int) ≤ IntKind.wrap IntKind.i64 (IntKind.wrap IntKind.i64 ((8 : Int) * x1) - (1 : Int))) && true && true || !x0 == (1 : Int)) && true && true && true) = true := by
  have h0 := h
  simp only [h0, Bool.and_true, Bool.true_and, Bool.or_true, Bool.true_or, Bool.or_false, Bool.false_or, Bool.and_self, Bool.cond_self, Bool.not_true, Bool.not_false, Bool.false_and, Bool.and_false, u64_dec, Nat.zero_add, Nat.le_refl, decide_true, eq_self, List.drop_zero, List.take_length, Bool.not_not, bif_tf, bif_ft]
theorem e226 (x0 : Int) (x1 : Int) (x2 : Int) (x3 : Int) (x4 : Int) : fnT Q225 [] [] 0 F226 [.one (.lit (.int .i64 x0)), .one (.lit (.int .i64 x1)), .one (.lit (.int .i64 x2)), .one (.lit (.int .i64 x3)), .one (.lit (.int .i64 x4))] [] = some ((SV.one (T.lit (Value.int IntKind.i64 (g226_0 x0 x1 x2 x3 x4))), []), (decide ((0 : Int) ≤ IntKind.wrap IntKind.i64 (IntKind.wrap IntKind.i64 ((8 : Int) * x1) - (1 : Int))) && true && true || !x0 == (1 : Int)) && true && true && true) := by kernel_rfl
def q226 : List SV → List Blk → Option ((SV × List Blk) × Bool)
  | [.one (.lit (.int .i64 x0)), .one (.lit (.int .i64 x1)), .one (.lit (.int .i64 x2)), .one (.lit (.int .i64 x3)), .one (.lit (.int .i64 x4))], [] => some ((SV.one (T.lit (Value.int IntKind.i64 (g226_0 x0 x1 x2 x3 x4))), []), decide ((0 : Int) ≤ IntKind.wrap IntKind.i64 (IntKind.wrap IntKind.i64 ((8 : Int) * x1) - (1 : Int))) || !x0 == (1 : Int))
  | _, _ => none
theorem t226 (args : List SV) (hp : List Blk) (r : SV × List Blk) (h : q226 args hp = some (r, true)) : R 226 args hp = some r := by
  unfold q226 at h
  split at h
  · rename_i x0 x1 x2 x3 x4; exact R_fn at226 0 (fnT_run Q225_ok (okTrans (e226 x0 x1 x2 x3 x4) (k226 x0 x1 x2 x3 x4) h))
  · simp at h
noncomputable def Q226 : Qt := qcons 226 q226 Q225
theorem Q226_ok : QOk R Q226 := qcons_ok t226 Q225_ok
/-! impl.shiftOnce -/
def g176_0 (x0 : Int) (x1 : Int) (x2 : Int) (x3 : Int) : Int := bif g178_0 x0 then IntKind.wrap IntKind.i64 (↑(BitVec.toNat (BitVec.ofInt (64 : Nat) (IntKind.wrap IntKind.i64 (↑(BitVec.toNat (BitVec.ofInt (64 : Nat) (IntKind.wrap IntKind.i64 (x3 * (2 : Int))) &&& BitVec.ofInt (64 : Nat) (IntKind.wrap IntKind.i64 (g218_0 x1 - (1 : Int))))) : Int)) ||| BitVec.ofInt (64 : Nat) (g226_0 x0 x1 x2 x3 (bif g178_0 x0 then Int.fdiv x3 ((2 : Int) ^ min (Int.toNat (IntKind.wrap IntKind.i64 (IntKind.wrap IntKind.i64 ((8 : Int) * x1) - (1 : Int)))) (64 : Nat)) else IntKind.wrap IntKind.i64 (↑(BitVec.toNat (BitVec.ofInt (64 : Nat) x3 &&& BitVec.ofInt (64 : Nat) (1 : Int))) : Int))))) : Int) else IntKind.wrap IntKind.i64 (↑(BitVec.toNat (BitVec.ofInt (64 : Nat) (Int.fdiv x3 (2 : Int)) ||| BitVec.ofInt (64 : Nat) (IntKind.wrap IntKind.i64 (g226_0 x0 x1 x2 x3 (bif g178_0 x0 then Int.fdiv x3 ((2 : Int) ^ min (Int.toNat (IntKind.wrap IntKind.i64 (IntKind.wrap IntKind.i64 ((8 : Int) * x1) - (1 : Int)))) (64 : Nat)) else IntKind.wrap IntKind.i64 (↑(BitVec.toNat (BitVec.ofInt (64 : Nat) x3 &&& BitVec.ofInt (64 : Nat) (1 : Int))) : Int)) * (2 : Int) ^ min (Int.toNat (IntKind.wrap IntKind.i64 (IntKind.wrap IntKind.i64 ((8 : Int) * x1) - (1 : Int)))) (64 : Nat))))) : Int)
def g176_1 (x0 : Int) (x1 : Int) (x2 : Int) (x3 : Int) : Int := IntKind.wrap IntKind.i64 (↑(BitVec.toNat (BitVec.ofInt (64 : Nat) (IntKind.wrap IntKind.i64 (↑(BitVec.toNat (BitVec.ofInt (64 : Nat) (IntKind.wrap IntKind.i64 (↑(BitVec.toNat (BitVec.ofInt (64 : Nat) (IntKind.wrap IntKind.i64 ((bif g178_0 x0 then Int.fdiv x3 ((2 : Int) ^ min (Int.toNat (IntKind.wrap IntKind.i64 (IntKind.wrap IntKind.i64 ((8 : Int) * x1) - (1 : Int)))) (64 : Nat)) else IntKind.wrap IntKind.i64 (↑(BitVec.toNat (BitVec.ofInt (64 : Nat) x3 &&& BitVec.ofInt (64 : Nat) (1 : Int))) : Int)) * (1 : Int))) ||| BitVec.ofInt (64 : Nat) (bif bif x0 == (4 : Int) then true else x0 == (5 : Int) then IntKind.wrap IntKind.i64 (↑(BitVec.toNat (BitVec.ofInt (64 : Nat) x2 &&& BitVec.ofInt (64 : Nat) (16 : Int))) : Int) else IntKind.wrap IntKind.i64 ((bif g178_0 x0 then Int.fdiv x3 ((2 : Int) ^ min (Int.toNat (IntKind.wrap IntKind.i64 (IntKind.wrap IntKind.i64 ((8 : Int) * x1) - (1 : Int)))) (64 : Nat)) else IntKind.wrap IntKind.i64 (↑(BitVec.toNat (BitVec.ofInt (64 : Nat) x3 &&& BitVec.ofInt (64 : Nat) (1 : Int))) : Int)) * (16 : Int))))) : Int)) ||| BitVec.ofInt (64 : Nat) (g224_0 (bif x0 == (0 : Int) then Int.fdiv (bif g178_0 x0 then IntKind.wrap IntKind.i64 (↑(BitVec.toNat (BitVec.ofInt (64 : Nat) (IntKind.wrap IntKind.i64 (↑(BitVec.toNat (BitVec.ofInt (64 : Nat) (IntKind.wrap IntKind.i64 (x3 * (2 : Int))) &&& BitVec.ofInt (64 : Nat) (IntKind.wrap IntKind.i64 (g218_0 x1 - (1 : Int))))) : Int)) ||| BitVec.ofInt (64 : Nat) (g226_0 x0 x1 x2 x3 (bif g178_0 x0 then Int.fdiv x3 ((2 : Int) ^ min (Int.toNat (IntKind.wrap IntKind.i64 (IntKind.wrap IntKind.i64 ((8 : Int) * x1) - (1 : Int)))) (64 : Nat)) else IntKind.wrap IntKind.i64 (↑(BitVec.toNat (BitVec.ofInt (64 : Nat) x3 &&& BitVec.ofInt (64 : Nat) (1 : Int))) : Int))))) : Int) else IntKind.wrap IntKind.i64 (↑(BitVec.toNat (BitVec.ofInt (64 : Nat) (Int.fdiv x3 (2 : Int)) ||| BitVec.ofInt (64 : Nat) (IntKind.wrap IntKind.i64 (g226_0 x0 x1 x2 x3 (bif g178_0 x0 then Int.fdiv x3 ((2 : Int) ^ min (Int.toNat (IntKind.wrap IntKind.i64 (IntKind.wrap IntKind.i64 ((8 : Int) * x1) - (1 : Int)))) (64 : Nat)) else IntKind.wrap IntKind.i64 (↑(BitVec.toNat (BitVec.ofInt (64 : Nat) x3 &&& BitVec.ofInt (64 : Nat) (1 : Int))) : Int)) * (2 : Int) ^ min (Int.toNat (IntKind.wrap IntKind.i64 (IntKind.wrap IntKind.i64 ((8 : Int) * x1) - (1 : Int)))) (64 : Nat))))) : Int)) ((2 : Int) ^ min (Int.toNat (IntKind.wrap IntKind.i64 (IntKind.wrap IntKind.i64 ((8 : Int) * x1) - (1 : Int)))) (64 : Nat)) != Int.fdiv x3 ((2 : Int) ^ min (Int.toNat (IntKind.wrap IntKind.i64 (IntKind.wrap IntKind.i64 ((8 : Int) * x1) - (1 : Int)))) (64 : Nat)) else false) (2 : Int)))) : Int)) ||| BitVec.ofInt (64 : Nat) (g225_0 x1 (bif g178_0 x0 then IntKind.wrap IntKind.i64 (↑(BitVec.toNat (BitVec.ofInt (64 : Nat) (IntKind.wrap IntKind.i64 (↑(BitVec.toNat (BitVec.ofInt (64 : Nat) (IntKind.wrap IntKind.i64 (x3 * (2 : Int))) &&& BitVec.ofInt (64 : Nat) (IntKind.wrap IntKind.i64 (g218_0 x1 - (1 : Int))))) : Int)) ||| BitVec.ofInt (64 : Nat) (g226_0 x0 x1 x2 x3 (bif g178_0 x0 then Int.fdiv x3 ((2 : Int) ^ min (Int.toNat (IntKind.wrap IntKind.i64 (IntKind.wrap IntKind.i64 ((8 : Int) * x1) - (1 : Int)))) (64 : Nat)) else IntKind.wrap IntKind.i64 (↑(BitVec.toNat (BitVec.ofInt (64 : Nat) x3 &&& BitVec.ofInt (64 : Nat) (1 : Int))) : Int))))) : Int) else IntKind.wrap IntKind.i64 (↑(BitVec.toNat (BitVec.ofInt (64 : Nat) (Int.fdiv x3 (2 : Int)) ||| BitVec.ofInt (64 : Nat) (IntKind.wrap IntKind.i64 (g226_0 x0 x1 x2 x3 (bif g178_0 x0 then Int.fdiv x3 ((2 : Int) ^ min (Int.toNat (IntKind.wrap IntKind.i64 (IntKind.wrap IntKind.i64 ((8 : Int) * x1) - (1 : Int)))) (64 : Nat)) else IntKind.wrap IntKind.i64 (↑(BitVec.toNat (BitVec.ofInt (64 : Nat) x3 &&& BitVec.ofInt (64 : Nat) (1 : Int))) : Int)) * (2 : Int) ^ min (Int.toNat (IntKind.wrap IntKind.i64 (IntKind.wrap IntKind.i64 ((8 : Int) * x1) - (1 : Int)))) (64 : Nat))))) : Int))))) : Int)
theorem k176 (x0 : Int) (x1 : Int) (x2 : Int) (x3 : Int) (h : ((decide ((0 : Int) ≤ IntKind.wrap IntKind.i64 (IntKind.wrap IntKind.i64 ((8 : Int) * x1) - (1 : Int))) || !g178_0 x0) && ((decide ((0 : Int) ≤ IntKind.wrap IntKind.i64 (IntKind.wrap IntKind.i64 ((8 : Int) * x1) - (1 : Int))) || !x0 == (1 : Int)) && (decide ((0 : Int) ≤ IntKind.wrap IntKind.i64 (IntKind.wrap IntKind.i64 ((8 : Int) * x1) - (1 : Int))) && ((decide ((0 : Int) ≤ IntKind.wrap IntKind.i64 ((8 : Int) * x1)) || !g178_0 x0) && decide ((0 : Int) ≤ IntKind.wrap IntKind.i64 ((8 : Int) * x1)))))) = true) : ((decide ((0 : Int) ≤ IntKind.wrap IntKind.i64 (IntKind.wrap IntKind.i64 ((8 : Int) * x1) - (1 : Int))) && true || !g178_0 x0) && true && ((decide ((0 : Int) ≤ IntKind.wrap IntKind.i64 (IntKind.wrap IntKind.i64 ((8 : Int) * x1) - (1 : Int))) || !x0 == (1 : Int)) && true && (decide ((0 : Int) ≤ IntKind.wrap IntKind.i64 (IntKind.wrap IntKind.i64 ((8 : Int) * x1) - (1 : Int))) && true && ((decide ((0 : Int) ≤ IntKind.wrap IntKind.i64 ((8 : Int) * x1)) && true || !g178_0 x0) && true && ((decide ((0 : Int) ≤ IntKind.wrap IntKind.i64 (IntKind.wrap IntKind.i64 ((8 : Int) * x1) - (1 : Int))) && (decide ((0 : Int) ≤ IntKind.wrap IntKind.i64 (IntKind.wrap IntKind.i64 ((8 : Int) * x1) - (1 : Int))) && true) || !x0 == (0 : Int)) && true && (decide ((0 : Int) ≤ IntKind.wrap IntKind.i64 ((8 : Int) * x1)) && true && true))))) && true) = true := by
  obtain ⟨h0, h⟩ := Bool.and_eq_true_iff.1 h
  obtain ⟨h1, h⟩ := Bool.and_eq_true_iff.1 h
  obtain ⟨h2, h⟩ := Bool.and_eq_true_iff.1 h
  obtain ⟨h3, h⟩ := Bool.and_eq_true_iff.1 h
  have h4 := h
  simp only [h0, h1, h2, h3, h4, Bool.and_true, Bool.true_and, Bool.or_true, Bool.true_or, Bool.or_false, Bool.false_or, Bool.and_self, Bool.cond_self, Bool.not_true, Bool.not_false, Bool.false_and, Bool.and_false, u64_dec, Nat.zero_add, Nat.le_refl, decide_true, eq_self, List.drop_zero, List.take_length, Bool.not_not, bif_tf, bif_ft]
theorem e176 (x0 : Int) (x1 : Int) (x2 : Int) (x3 : Int) : fnT Q226 [] [] 0 F176 [.one (.lit (.int .i64 x0)), .one (.lit (.int .i64 x1)), .one (.lit (.int .i64 x2)), .one (.lit (.int .i64 x3))] [] = some ((SV.tup [SV.one (T.lit (Value.int IntKind.i64 (g176_0 x0 x1 x2 x3))), SV.one (T.lit (Value.int IntKind.i64 (g176_1 x0 x1 x2 x3)))], []), (decide ((0 : Int) ≤ IntKind.wrap IntKind.i64 (IntKind.wrap IntKind.i64 ((8 : Int) * x1) - (1 : Int))) && true || !g178_0 x0) && true && ((decide ((0 : Int) ≤ IntKind.wrap IntKind.i64 (IntKind.wrap IntKind.i64 ((8 : Int) * x1) - (1 : Int))) || !x0 == (1 : Int)) && true && (decide ((0 : Int) ≤ IntKind.wrap IntKind.i64 (IntKind.wrap IntKind.i64 ((8 : Int) * x1) - (1 : Int))) && true && ((decide ((0 : Int) ≤ IntKind.wrap IntKind.i64 ((8 : Int) * x1)) && true || !g178_0 x0) && true && ((decide ((0 : Int) ≤ IntKind.wrap IntKind.i64 (IntKind.wrap IntKind.i64 ((8 : Int) * x1) - (1 : Int))) && (decide ((0 : Int) ≤ IntKind.wrap IntKind.i64 (IntKind.wrap IntKind.i64 ((8 : Int) * x1) - (1 : Int))) && true) || !x0 == (0 : Int)) && true && (decide ((0 : Int) ≤ IntKind.wrap IntKind.i64 ((8 : Int) * x1)) && true && true))))) && true) := by kernel_rfl
def q176 : List SV → List Blk → Option ((SV × List Blk) × Bool)
  | [.one (.lit (.int .i64 x0)), .one (.lit (.int .i64 x1)), .one (.lit (.int .i64 x2)), .one (.lit (.int .i64 x3))], [] => some ((SV.tup [SV.one (T.lit (Value.int IntKind.i64 (g176_0 x0 x1 x2 x3))), SV.one (T.lit (Value.int IntKind.i64 (g176_1 x0 x1 x2 x3)))], []), (decide ((0 : Int) ≤ IntKind.wrap IntKind.i64 (IntKind.wrap IntKind.i64 ((8 : Int) * x1) - (1 : Int))) || !g178_0 x0) && ((decide ((0 : Int) ≤ IntKind.wrap IntKind.i64 (IntKind.wrap IntKind.i64 ((8 : Int) * x1) - (1 : Int))) || !x0 == (1 : Int)) && (decide ((0 : Int) ≤ IntKind.wrap IntKind.i64 (IntKind.wrap IntKind.i64 ((8 : Int) * x1) - (1 : Int))) && ((decide ((0 : Int) ≤ IntKind.wrap IntKind.i64 ((8 : Int) * x1)) || !g178_0 x0) && decide ((0 : Int) ≤ IntKind.wrap IntKind.i64 ((8 : Int) * x1))))))
  | _, _ => none
theorem t176 (args : List SV) (hp : List Blk) (r : SV × List Blk) (h : q176 args hp = some (r, true)) : R 176 args hp = some r := by
  unfold q176 at h
  split at h
  · rename_i x0 x1 x2 x3; exact R_fn at176 0 (fnT_run Q226_ok (okTrans (e176 x0 x1 x2 x3) (k176 x0 x1 x2 x3) h))
  · simp at h
noncomputable def Q176 : Qt := qcons 176 q176 Q226
theorem Q176_ok : QOk R Q176 := qcons_ok t176 Q226_ok
/-! impl.shiftBy -/
def s173_0 (v0 : Int) (v1 : Int) (v2 : Int) (v3 : Int) (v4 : Int) (v5 : Int) : St := ⟨[(0, .one (.lit (.int .i64 v0))), (1, .one (.lit (.int .i64 v1))), (2, .one (.lit (.int .i64 v2))), (3, .one (.lit (.int .i64 v3))), (4, .one (.lit (.int .i64 v4))), (14, .one (.lit (.int .i64 v5)))], []⟩
def x173_0 (v0 : Int) (v1 : Int) (v2 : Int) (v3 : Int) (v4 : Int) (v5 : Int) : List (Ex × Bool × Tr) := [(Ex.brk (0 : Nat), !decide (v4 > (0 : Int)), Tr.leaf { sl := [((0 : Nat), SV.one (T.lit (Value.int IntKind.i64 v0))), ((1 : Nat), SV.one (T.lit (Value.int IntKind.i64 v1))), ((2 : Nat), SV.one (T.lit (Value.int IntKind.i64 v2))), ((3 : Nat), SV.one (T.lit (Value.int IntKind.i64 v3))), ((4 : Nat), SV.one (T.lit (Value.int IntKind.i64 v4))), ((14 : Nat), SV.one (T.lit (Value.int IntKind.i64 v5))), ((35 : Nat), SV.one (T.lit (Value.bool (decide (v4 > (0 : Int))))))], hp := [] })]
def u173_0 (v0 : Int) (v1 : Int) (v2 : Int) (v3 : Int) (v4 : Int) (v5 : Int) : St := { sl := [((0 : Nat), SV.one (T.lit (Value.int IntKind.i64 v0))), ((1 : Nat), SV.one (T.lit (Value.int IntKind.i64 v1))), ((2 : Nat), SV.one (T.lit (Value.int IntKind.i64 (g176_1 v0 v1 v2 v3)))), ((3 : Nat), SV.one (T.lit (Value.int IntKind.i64 (g176_0 v0 v1 v2 v3)))), ((4 : Nat), SV.one (T.lit (Value.int IntKind.i64 (IntKind.wrap IntKind.i64 (v4 - (1 : Int)))))), ((14 : Nat), SV.one (T.lit (Value.int IntKind.i64 (IntKind.wrap IntKind.i64 (↑(BitVec.toNat (BitVec.ofInt (64 : Nat) v5 ||| BitVec.ofInt (64 : Nat) (IntKind.wrap IntKind.i64 (↑(BitVec.toNat (BitVec.ofInt (64 : Nat) (g176_1 v0 v1 v2 v3) &&& BitVec.ofInt (64 : Nat) (2 : Int))) : Int)))) : Int)))))], hp := [] }
def y173_0 (v0 : Int) (v1 : Int) (v2 : Int) (v3 : Int) (v4 : Int) (v5 : Int) : Bool := (decide ((0 : Int) ≤ IntKind.wrap IntKind.i64 (IntKind.wrap IntKind.i64 ((8 : Int) * v1) - (1 : Int))) || !g178_0 v0) && ((decide ((0 : Int) ≤ IntKind.wrap IntKind.i64 (IntKind.wrap IntKind.i64 ((8 : Int) * v1) - (1 : Int))) || !v0 == (1 : Int)) && (decide ((0 : Int) ≤ IntKind.wrap IntKind.i64 (IntKind.wrap IntKind.i64 ((8 : Int) * v1) - (1 : Int))) && ((decide ((0 : Int) ≤ IntKind.wrap IntKind.i64 ((8 : Int) * v1)) || !g178_0 v0) && decide ((0 : Int) ≤ IntKind.wrap IntKind.i64 ((8 : Int) * v1))))) || !decide (v4 > (0 : Int))
theorem hy173_0 (v0 : Int) (v1 : Int) (v2 : Int) (v3 : Int) (v4 : Int) (v5 : Int) : ((decide ((0 : Int) ≤ IntKind.wrap IntKind.i64 (IntKind.wrap IntKind.i64 ((8 : Int) * v1) - (1 : Int))) || !g178_0 v0) && ((decide ((0 : Int) ≤ IntKind.wrap IntKind.i64 (IntKind.wrap IntKind.i64 ((8 : Int) * v1) - (1 : Int))) || !v0 == (1 : Int)) && (decide ((0 : Int) ≤ IntKind.wrap IntKind.i64 (IntKind.wrap IntKind.i64 ((8 : Int) * v1) - (1 : Int))) && ((decide ((0 : Int) ≤ IntKind.wrap IntKind.i64 ((8 : Int) * v1)) || !g178_0 v0) && decide ((0 : Int) ≤ IntKind.wrap IntKind.i64 ((8 : Int) * v1))))) && true && true && true || !decide (v4 > (0 : Int))) = y173_0 v0 v1 v2 v3 v4 v5 := by simp only [y173_0, List.drop_zero, List.take_length, Nat.zero_add, Nat.le_refl, Int.le_refl, decide_true, eq_self, ri_len, List.length_cons, List.length_nil, List.length_append, Nat.reduceAdd, u64_dec, Bool.and_self, Bool.true_and, Bool.and_true, Bool.or_true, Bool.true_or, Bool.or_false, Bool.false_or, Bool.cond_self, Bool.not_true, Bool.not_false, Bool.not_not, bif_tf, bif_ft]
def z173_0 (v0 : Int) (v1 : Int) (v2 : Int) (v3 : Int) (v4 : Int) (v5 : Int) : Bool := ((!decide (v4 > (0 : Int))) || false)
def L173_0 : Nat → Int → Int → Int → Int → Int → Int → Option (Int × Int × Int × Int × Int × Int)
  | 0, _, _, _, _, _, _ => none
  | k + 1, v0, v1, v2, v3, v4, v5 => bif y173_0 v0 v1 v2 v3 v4 v5 then bif z173_0 v0 v1 v2 v3 v4 v5 then some (v0, v1, v2, v3, v4, v5) else L173_0 k (v0) (v1) (g176_1 v0 v1 v2 v3) (g176_0 v0 v1 v2 v3) (IntKind.wrap IntKind.i64 (v4 - (1 : Int))) (IntKind.wrap IntKind.i64 (↑(BitVec.toNat (BitVec.ofInt (64 : Nat) v5 ||| BitVec.ofInt (64 : Nat) (IntKind.wrap IntKind.i64 (↑(BitVec.toNat (BitVec.ofInt (64 : Nat) (g176_1 v0 v1 v2 v3) &&& BitVec.ofInt (64 : Nat) (2 : Int))) : Int)))) : Int)) else none
theorem hb173_0 (n : Nat) (v0 : Int) (v1 : Int) (v2 : Int) (v3 : Int) (v4 : Int) (v5 : Int) : Go.Zq.evt Q176 [] [] lqN 0 n F173b0 (s173_0 v0 v1 v2 v3 v4 v5) = some (⟨x173_0 v0 v1 v2 v3 v4 v5, some (.leaf (u173_0 v0 v1 v2 v3 v4 v5))⟩, y173_0 v0 v1 v2 v3 v4 v5) := by
  rw [← hy173_0 v0 v1 v2 v3 v4 v5]
  kernel_rfl
theorem hc173_0 (v0 : Int) (v1 : Int) (v2 : Int) (v3 : Int) (v4 : Int) (v5 : Int) : canonS 0 [0, 1, 2, 3, 4, 14] (u173_0 v0 v1 v2 v3 v4 v5) = some (s173_0 (v0) (v1) (g176_1 v0 v1 v2 v3) (g176_0 v0 v1 v2 v3) (IntKind.wrap IntKind.i64 (v4 - (1 : Int))) (IntKind.wrap IntKind.i64 (↑(BitVec.toNat (BitVec.ofInt (64 : Nat) v5 ||| BitVec.ofInt (64 : Nat) (IntKind.wrap IntKind.i64 (↑(BitVec.toNat (BitVec.ofInt (64 : Nat) (g176_1 v0 v1 v2 v3) &&& BitVec.ofInt (64 : Nat) (2 : Int))) : Int)))) : Int)), true) := by
  kernel_rfl
def w173_0_0 (n : Nat) (v0 : Int) (v1 : Int) (v2 : Int) (v3 : Int) (v4 : Int) (v5 : Int) : Int := ((L173_0 n v0 v1 v2 v3 v4 v5).getD (default, default, default, default, default, default)).1
def w173_0_1 (n : Nat) (v0 : Int) (v1 : Int) (v2 : Int) (v3 : Int) (v4 : Int) (v5 : Int) : Int := ((L173_0 n v0 v1 v2 v3 v4 v5).getD (default, default, default, default, default, default)).2.1
def w173_0_2 (n : Nat) (v0 : Int) (v1 : Int) (v2 : Int) (v3 : Int) (v4 : Int) (v5 : Int) : Int := ((L173_0 n v0 v1 v2 v3 v4 v5).getD (default, default, default, default, default, default)).2.2.1
def w173_0_3 (n : Nat) (v0 : Int) (v1 : Int) (v2 : Int) (v3 : Int) (v4 : Int) (v5 : Int) : Int := ((L173_0 n v0 v1 v2 v3 v4 v5).getD (default, default, default, default, default, default)).2.2.2.1
def w173_0_4 (n : Nat) (v0 : Int) (v1 : Int) (v2 : Int) (v3 : Int) (v4 : Int) (v5 : Int) : Int := ((L173_0 n v0 v1 v2 v3 v4 v5).getD (default, default, default, default, default, default)).2.2.2.2.1
def w173_0_5 (n : Nat) (v0 : Int) (v1 : Int) (v2 : Int) (v3 : Int) (v4 : Int) (v5 : Int) : Int := ((L173_0 n v0 v1 v2 v3 v4 v5).getD (default, default, default, default, default, default)).2.2.2.2.2
theorem li173_0 (n : Nat) : ∀ (v0 : Int) (v1 : Int) (v2 : Int) (v3 : Int) (v4 : Int) (v5 : Int) (w : Int × Int × Int × Int × Int × Int), L173_0 n v0 v1 v2 v3 v4 v5 = some w → w.1 = v0 ∧ w.2.1 = v1 := by
  induction n with
  | zero => intro v0 v1 v2 v3 v4 v5 w h; simp [L173_0] at h
  | succ k ih =>
    intro v0 v1 v2 v3 v4 v5 w h
    unfold L173_0 at h
    cases hy : y173_0 v0 v1 v2 v3 v4 v5
    · rw [hy] at h; simp at h
    · rw [hy, cond_true] at h
      cases hz : z173_0 v0 v1 v2 v3 v4 v5
      · rw [hz, cond_false] at h
        exact ih _ _ _ _ _ _ w h
      · rw [hz, cond_true] at h
        obtain rfl := Option.some.inj h
        simp only [and_self]
def lq173_0 (n : Nat) (σ : St) : Option (O × Bool) :=
  match canonS 0 [0, 1, 2, 3, 4, 14] σ with
  | some (⟨[(0, .one (.lit (.int .i64 v0))), (1, .one (.lit (.int .i64 v1))), (2, .one (.lit (.int .i64 v2))), (3, .one (.lit (.int .i64 v3))), (4, .one (.lit (.int .i64 v4))), (14, .one (.lit (.int .i64 v5)))], []⟩, c) => some (⟨x173_0 v0 v1 (w173_0_2 n v0 v1 v2 v3 v4 v5) (w173_0_3 n v0 v1 v2 v3 v4 v5) (w173_0_4 n v0 v1 v2 v3 v4 v5) (w173_0_5 n v0 v1 v2 v3 v4 v5), none⟩, (c) && (L173_0 n v0 v1 v2 v3 v4 v5).isSome)
  | _ => none
theorem lt173_0 (n : Nat) : Tells (lq173_0 n) (evc R 0 n (.loop [0, 1, 2, 3, 4, 14] F173b0)) := fun σ σr o h hl => by
  unfold lq173_0 at h
  split at h
  · rename_i v0 v1 v2 v3 v4 v5 c hs
    have hsome : (L173_0 n v0 v1 v2 v3 v4 v5).isSome = true := by
      have := congrArg (Option.map (·.2)) h
      simp only [Option.map_some, Option.some.injEq, Bool.and_eq_true] at this
      exact this.2
    obtain ⟨w, hw⟩ := Option.isSome_iff_exists.1 hsome
    have hi := li173_0 n v0 v1 v2 v3 v4 v5 w hw
    have ex : x173_0 v0 v1 (w173_0_2 n v0 v1 v2 v3 v4 v5) (w173_0_3 n v0 v1 v2 v3 v4 v5) (w173_0_4 n v0 v1 v2 v3 v4 v5) (w173_0_5 n v0 v1 v2 v3 v4 v5) = x173_0 (((L173_0 n v0 v1 v2 v3 v4 v5).getD (default, default, default, default, default, default)).1) (((L173_0 n v0 v1 v2 v3 v4 v5).getD (default, default, default, default, default, default)).2.1) (((L173_0 n v0 v1 v2 v3 v4 v5).getD (default, default, default, default, default, default)).2.2.1) (((L173_0 n v0 v1 v2 v3 v4 v5).getD (default, default, default, default, default, default)).2.2.2.1) (((L173_0 n v0 v1 v2 v3 v4 v5).getD (default, default, default, default, default, default)).2.2.2.2.1) (((L173_0 n v0 v1 v2 v3 v4 v5).getD (default, default, default, default, default, default)).2.2.2.2.2) := by simp only [w173_0_2, w173_0_3, w173_0_4, w173_0_5, hw, Option.getD_some, hi]
    rw [ex] at h
    exact lq_tells (V := Int × Int × Int × Int × Int × Int) (f := Go.Zq.evt Q176 [] [] lqN 0 n F173b0) (st := fun v => s173_0 v.1 v.2.1 v.2.2.1 v.2.2.2.1 v.2.2.2.2.1 v.2.2.2.2.2) (ν := fun v => u173_0 v.1 v.2.1 v.2.2.1 v.2.2.2.1 v.2.2.2.2.1 v.2.2.2.2.2) (ob := (fun v => ⟨x173_0 v.1 v.2.1 v.2.2.1 v.2.2.2.1 v.2.2.2.2.1 v.2.2.2.2.2, some (.leaf (u173_0 v.1 v.2.1 v.2.2.1 v.2.2.2.1 v.2.2.2.2.1 v.2.2.2.2.2))⟩)) (okb := fun v => y173_0 v.1 v.2.1 v.2.2.1 v.2.2.2.1 v.2.2.2.2.1 v.2.2.2.2.2) (next := fun v => (fun v0 v1 v2 v3 v4 v5 => (v0, v1, g176_1 v0 v1 v2 v3, g176_0 v0 v1 v2 v3, IntKind.wrap IntKind.i64 (v4 - (1 : Int)), IntKind.wrap IntKind.i64 (↑(BitVec.toNat (BitVec.ofInt (64 : Nat) v5 ||| BitVec.ofInt (64 : Nat) (IntKind.wrap IntKind.i64 (↑(BitVec.toNat (BitVec.ofInt (64 : Nat) (g176_1 v0 v1 v2 v3) &&& BitVec.ofInt (64 : Nat) (2 : Int))) : Int)))) : Int))) v.1 v.2.1 v.2.2.1 v.2.2.2.1 v.2.2.2.2.1 v.2.2.2.2.2)
      (evt_tells Q176_ok (by simp only [F173, F173b0, Loops, and_self, and_true])) (fun v => hb173_0 n v.1 v.2.1 v.2.2.1 v.2.2.2.1 v.2.2.2.2.1 v.2.2.2.2.2) (fun _ => rfl) (fun v _ _ => hc173_0 v.1 v.2.1 v.2.2.1 v.2.2.2.1 v.2.2.2.2.1 v.2.2.2.2.2) (L := fun k v => L173_0 k v.1 v.2.1 v.2.2.1 v.2.2.2.1 v.2.2.2.2.1 v.2.2.2.2.2) (fun _ => rfl) (fun _ _ => rfl) (v := (v0, v1, v2, v3, v4, v5)) (d := (default, default, default, default, default, default)) hs h hl
  · simp at h
def lq173x0 (n : Nat) : Lq := fun live σ => if live = [0, 1, 2, 3, 4, 14] then lq173_0 n σ else none
def g173_0 (x0 : Int) (x1 : Int) (x2 : Int) (x3 : Int) (x4 : Int) : Int := bif x4 == (0 : Int) then x3 else w173_0_3 (70 : Nat) x0 x1 x2 x3 x4 (0 : Int)
def g173_1 (x0 : Int) (x1 : Int) (x2 : Int) (x3 : Int) (x4 : Int) : Int := bif x4 == (0 : Int) then IntKind.wrap IntKind.i64 (↑(BitVec.toNat (BitVec.ofInt (64 : Nat) (IntKind.wrap IntKind.i64 (↑(BitVec.toNat (BitVec.ofInt (64 : Nat) (IntKind.wrap IntKind.i64 (↑(BitVec.toNat (BitVec.ofInt (64 : Nat) x2 &&& BitVec.ofInt (64 : Nat) (16 : Int))) : Int)) ||| BitVec.ofInt (64 : Nat) (g224_0 (bif IntKind.wrap IntKind.i64 (↑(BitVec.toNat (BitVec.ofInt (64 : Nat) x2 &&& BitVec.ofInt (64 : Nat) (16 : Int))) : Int) != (0 : Int) then decide (x0 ≥ (6 : Int)) else false) (1 : Int)))) : Int)) ||| BitVec.ofInt (64 : Nat) (g225_0 x1 x3))) : Int) else IntKind.wrap IntKind.i64 (↑(BitVec.toNat (BitVec.ofInt (64 : Nat) (w173_0_2 (70 : Nat) x0 x1 x2 x3 x4 (0 : Int)) ||| BitVec.ofInt (64 : Nat) (w173_0_5 (70 : Nat) x0 x1 x2 x3 x4 (0 : Int)))) : Int)
theorem k173 (x0 : Int) (x1 : Int) (x2 : Int) (x3 : Int) (x4 : Int) (h : ((decide ((0 : Int) ≤ IntKind.wrap IntKind.i64 ((8 : Int) * x1)) || !x4 == (0 : Int)) && (Option.isSome (L173_0 (70 : Nat) x0 x1 x2 x3 x4 (0 : Int)) || x4 == (0 : Int))) = true) : ((decide ((0 : Int) ≤ IntKind.wrap IntKind.i64 ((8 : Int) * x1)) && true && true || !x4 == (0 : Int)) && true && (Option.isSome (L173_0 (70 : Nat) x0 x1 x2 x3 x4 (0 : Int)) && true || x4 == (0 : Int)) && true) = true := by
  obtain ⟨h0, h⟩ := Bool.and_eq_true_iff.1 h
  have h1 := h
  simp only [h0, h1, Bool.and_true, Bool.true_and, Bool.or_true, Bool.true_or, Bool.or_false, Bool.false_or, Bool.and_self, Bool.cond_self, Bool.not_true, Bool.not_false, Bool.false_and, Bool.and_false, u64_dec, Nat.zero_add, Nat.le_refl, decide_true, eq_self, List.drop_zero, List.take_length, Bool.not_not, bif_tf, bif_ft]
theorem e173 (x0 : Int) (x1 : Int) (x2 : Int) (x3 : Int) (x4 : Int) : fnL Q176 [] [] (lq173x0 70) 70 F173 [.one (.lit (.int .i64 x0)), .one (.lit (.int .i64 x1)), .one (.lit (.int .i64 x2)), .one (.lit (.int .i64 x3)), .one (.lit (.int .i64 x4))] [] = some ((SV.tup [SV.one (T.lit (Value.int IntKind.i64 (g173_0 x0 x1 x2 x3 x4))), SV.one (T.lit (Value.int IntKind.i64 (g173_1 x0 x1 x2 x3 x4)))], []), (decide ((0 : Int) ≤ IntKind.wrap IntKind.i64 ((8 : Int) * x1)) && true && true || !x4 == (0 : Int)) && true && (Option.isSome (L173_0 (70 : Nat) x0 x1 x2 x3 x4 (0 : Int)) && true || x4 == (0 : Int)) && true) := by kernel_rfl
def q173 : List SV → List Blk → Option ((SV × List Blk) × Bool)
  | [.one (.lit (.int .i64 x0)), .one (.lit (.int .i64 x1)), .one (.lit (.int .i64 x2)), .one (.lit (.int .i64 x3)), .one (.lit (.int .i64 x4))], [] => some ((SV.tup [SV.one (T.lit (Value.int IntKind.i64 (g173_0 x0 x1 x2 x3 x4))), SV.one (T.lit (Value.int IntKind.i64 (g173_1 x0 x1 x2 x3 x4)))], []), (decide ((0 : Int) ≤ IntKind.wrap IntKind.i64 ((8 : Int) * x1)) || !x4 == (0 : Int)) && (Option.isSome (L173_0 (70 : Nat) x0 x1 x2 x3 x4 (0 : Int)) || x4 == (0 : Int)))
  | _, _ => none
theorem t173 (args : List SV) (hp : List Blk) (r : SV × List Blk) (h : q173 args hp = some (r, true)) : R 173 args hp = some r := by
  unfold q173 at h
  split at h
  · rename_i x0 x1 x2 x3 x4; exact R_fn at173 70 (fnL_run Q176_ok (by simp only [F173, F173b0, Loops, true_and, and_true]; first | trivial | (repeat' apply And.intro) <;> first | trivial  | exact fun σ σr o h hl => lt173_0 _ σ σr o h hl) (okTrans (e173 x0 x1 x2 x3 x4) (k173 x0 x1 x2 x3 x4) h))
  · simp at h
noncomputable def Q173 : Qt := qcons 173 q173 Q176
theorem Q173_ok : QOk R Q173 := qcons_ok t173 Q176_ok
/-! impl.ShiftBy -/
def g72_0 (x0 : Int) (x1 : Int) (x2 : Int) (x3 : Int) (x4 : Int) : Int := bif bif !g172_0 x0 x1 x2 x3 then true else !g142_0 x4 (0 : Int) (63 : Int) then (0 : Int) else g173_0 x0 x1 x2 x3 x4
def g72_1 (x0 : Int) (x1 : Int) (x2 : Int) (x3 : Int) (x4 : Int) : Int := bif bif !g172_0 x0 x1 x2 x3 then true else !g142_0 x4 (0 : Int) (63 : Int) then (0 : Int) else g173_1 x0 x1 x2 x3 x4
def r72_2 (x0 : Int) (x1 : Int) (x2 : Int) (x3 : Int) (x4 : Int) : Bool := bif bif !g172_0 x0 x1 x2 x3 then true else !g142_0 x4 (0 : Int) (63 : Int) then false else true
def g72_2 (x0 : Int) (x1 : Int) (x2 : Int) (x3 : Int) (x4 : Int) : Bool := !bif !g172_0 x0 x1 x2 x3 then true else !g142_0 x4 (0 : Int) (63 : Int)
theorem c72_2 (x0 : Int) (x1 : Int) (x2 : Int) (x3 : Int) (x4 : Int) : r72_2 x0 x1 x2 x3 x4 = g72_2 x0 x1 x2 x3 x4 := by simp only [r72_2, g72_2, Bool.cond_self, bif_tf, bif_ft, Bool.not_not, List.drop_zero, List.take_length]
theorem k72 (x0 : Int) (x1 : Int) (x2 : Int) (x3 : Int) (x4 : Int) (h : ((decide ((0 : Int) ≤ IntKind.wrap IntKind.i64 ((8 : Int) * x1)) || !x4 == (0 : Int)) && (Option.isSome (L173_0 (70 : Nat) x0 x1 x2 x3 x4 (0 : Int)) || x4 == (0 : Int)) || bif !g172_0 x0 x1 x2 x3 then true else !g142_0 x4 (0 : Int) (63 : Int)) = true) : (((decide ((0 : Int) ≤ IntKind.wrap IntKind.i64 ((8 : Int) * x1)) || !x4 == (0 : Int)) && (Option.isSome (L173_0 (70 : Nat) x0 x1 x2 x3 x4 (0 : Int)) || x4 == (0 : Int)) && true && true || bif !g172_0 x0 x1 x2 x3 then true else !g142_0 x4 (0 : Int) (63 : Int)) && true) = true := by
  have h0 := h
  simp only [h0, Bool.and_true, Bool.true_and, Bool.or_true, Bool.true_or, Bool.or_false, Bool.false_or, Bool.and_self, Bool.cond_self, Bool.not_true, Bool.not_false, Bool.false_and, Bool.and_false, u64_dec, Nat.zero_add, Nat.le_refl, decide_true, eq_self, List.drop_zero, List.take_length, Bool.not_not, bif_tf, bif_ft]
theorem d72 (x0 : Int) (x1 : Int) (x2 : Int) (x3 : Int) (x4 : Int) : fnT Q173 [] [] 0 F72 [.one (.lit (.int .i64 x0)), .one (.lit (.int .i64 x1)), .one (.lit (.int .i64 x2)), .one (.lit (.int .i64 x3)), .one (.lit (.int .i64 x4))] [] = some ((SV.tup [SV.one (T.lit (Value.int IntKind.i64 (g72_0 x0 x1 x2 x3 x4))), SV.one (T.lit (Value.int IntKind.i64 (g72_1 x0 x1 x2 x3 x4))), SV.one (T.lit (Value.bool (r72_2 x0 x1 x2 x3 x4)))], []), ((decide ((0 : Int) ≤ IntKind.wrap IntKind.i64 ((8 : Int) * x1)) || !x4 == (0 : Int)) && (Option.isSome (L173_0 (70 : Nat) x0 x1 x2 x3 x4 (0 : Int)) || x4 == (0 : Int)) && true && true || bif !g172_0 x0 x1 x2 x3 then true else !g142_0 x4 (0 : Int) (63 : Int)) && true) := by kernel_rfl
theorem e72 (x0 : Int) (x1 : Int) (x2 : Int) (x3 : Int) (x4 : Int) : fnT Q173 [] [] 0 F72 [.one (.lit (.int .i64 x0)), .one (.lit (.int .i64 x1)), .one (.lit (.int .i64 x2)), .one (.lit (.int .i64 x3)), .one (.lit (.int .i64 x4))] [] = some ((SV.tup [SV.one (T.lit (Value.int IntKind.i64 (g72_0 x0 x1 x2 x3 x4))), SV.one (T.lit (Value.int IntKind.i64 (g72_1 x0 x1 x2 x3 x4))), SV.one (T.lit (Value.bool (g72_2 x0 x1 x2 x3 x4)))], []), ((decide ((0 : Int) ≤ IntKind.wrap IntKind.i64 ((8 : Int) * x1)) || !x4 == (0 : Int)) && (Option.isSome (L173_0 (70 : Nat) x0 x1 x2 x3 x4 (0 : Int)) || x4 == (0 : Int)) && true && true || bif !g172_0 x0 x1 x2 x3 then true else !g142_0 x4 (0 : Int) (63 : Int)) && true) := by rw [d72, c72_2]
def q72 : List SV → List Blk → Option ((SV × List Blk) × Bool)
  | [.one (.lit (.int .i64 x0)), .one (.lit (.int .i64 x1)), .one (.lit (.int .i64 x2)), .one (.lit (.int .i64 x3)), .one (.lit (.int .i64 x4))], [] => some ((SV.tup [SV.one (T.lit (Value.int IntKind.i64 (g72_0 x0 x1 x2 x3 x4))), SV.one (T.lit (Value.int IntKind.i64 (g72_1 x0 x1 x2 x3 x4))), SV.one (T.lit (Value.bool (g72_2 x0 x1 x2 x3 x4)))], []), (decide ((0 : Int) ≤ IntKind.wrap IntKind.i64 ((8 : Int) * x1)) || !x4 == (0 : Int)) && (Option.isSome (L173_0 (70 : Nat) x0 x1 x2 x3 x4 (0 : Int)) || x4 == (0 : Int)) || bif !g172_0 x0 x1 x2 x3 then true else !g142_0 x4 (0 : Int) (63 : Int))
  | _, _ => none
theorem t72 (args : List SV) (hp : List Blk) (r : SV × List Blk) (h : q72 args hp = some (r, true)) : R 72 args hp = some r := by
  unfold q72 at h
  split at h
  · rename_i x0 x1 x2 x3 x4; exact R_fn at72 0 (fnT_run Q173_ok (okTrans (e72 x0 x1 x2 x3 x4) (k72 x0 x1 x2 x3 x4) h))
  · simp at h
noncomputable def Q72 : Qt := qcons 72 q72 Q173
theorem Q72_ok : QOk R Q72 := qcons_ok t72 Q173_ok
/-! (*spec.l1Cur).next -/
theorem e217 (x0_0 : List Row) (x0_1 : Int) (x0_2 : Int) : fnT qnil [(7, [.int .i64]), (11, [.imm 1]), (17, [.imm 1]), (21, [.int .i64]), (22, [.int .u8]), (23, [.int .u8]), (28, [.int .i64]), (36, [.int .u64]), (47, [.int .i64]), (51, [.imm 1]), (58, [.int .u64])] [] 0 F217 [.one (.ptr 0 0 0)] [.box [.imm true 1 x0_0, .lit (.int .i64 x0_1), .lit (.int .u64 x0_2)]] = some ((SV.one (T.lit (Value.int IntKind.i64 (bif decide (IntKind.wrap IntKind.i64 (x0_1 + (1 : Int)) ≤ ↑(List.length x0_0)) then bif decide (x0_1 < ↑(List.length x0_0)) then IntKind.wrap IntKind.i64 (intAt x0_0 (Int.toNat x0_1) (0 : Nat)) else (0 : Int) else farOf (seedOf x0_2 (bif decide (x0_1 < ↑(List.length x0_0)) then IntKind.wrap IntKind.i64 (intAt x0_0 (Int.toNat x0_1) (0 : Nat)) else (0 : Int)))))),
      [Blk.box [T.imm true (1 : Nat) (bif decide (IntKind.wrap IntKind.i64 (x0_1 + (1 : Int)) ≤ ↑(List.length x0_0)) then x0_0 else x0_0), T.lit (Value.int IntKind.i64 (bif decide (IntKind.wrap IntKind.i64 (x0_1 + (1 : Int)) ≤ ↑(List.length x0_0)) then IntKind.wrap IntKind.i64 (x0_1 + (1 : Int)) else IntKind.wrap IntKind.i64 (x0_1 + (1 : Int)))),
        T.lit (Value.int IntKind.u64 (bif decide (IntKind.wrap IntKind.i64 (x0_1 + (1 : Int)) ≤ ↑(List.length x0_0)) then seedOf x0_2 (bif decide (x0_1 < ↑(List.length x0_0)) then IntKind.wrap IntKind.i64 (intAt x0_0 (Int.toNat x0_1) (0 : Nat)) else (0 : Int)) else seedOf x0_2 (bif decide (x0_1 < ↑(List.length x0_0)) then IntKind.wrap IntKind.i64 (intAt x0_0 (Int.toNat x0_1) (0 : Nat)) else (0 : Int))))]]),
      (inRow [Kd.int IntKind.u8] x0_0 x0_1 && true || !decide (x0_1 < ↑(List.length x0_0))) && true && true && true) := by kernel_rfl
def q217 : List SV → List Blk → Option ((SV × List Blk) × Bool)
  | [.one (.ptr 0 0 0)], [.box [.imm true 1 x0_0, .lit (.int .i64 x0_1), .lit (.int .u64 x0_2)]] => some ((SV.one (T.lit (Value.int IntKind.i64 (nextV x0_0 x0_1 x0_2))), [Blk.box [T.imm true 1 x0_0, T.lit (Value.int IntKind.i64 (x0_1 + 1)), T.lit (Value.int IntKind.u64 (nextS x0_0 x0_1 x0_2))]]), okTo 0 x0_1 && bytesOk x0_0)
  | _, _ => none
theorem t217 (args : List SV) (hp : List Blk) (r : SV × List Blk) (h : q217 args hp = some (r, true)) : R 217 args hp = some r := by
  unfold q217 at h
  split at h
  · exact R_fn at217 0 (fnT_run qnil_ok ((e217 _ _ _).trans (next_raw h)))
  · simp at h
noncomputable def Q217 : Qt := qcons 217 q217 Q72
theorem Q217_ok : QOk R Q217 := qcons_ok t217 Q72_ok
/-! (*spec.l1Cur).pick -/
def g141_0 (x0_0 : List Row) (x0_1 : Int) (x0_2 : Int) (x1 : Int) : Int := bif decide (x1 ≤ (1 : Int)) then (0 : Int) else Int.tmod (bif decide (x1 > (200 : Int)) then IntKind.wrap IntKind.i64 (IntKind.wrap IntKind.i64 (nextV x0_0 x0_1 x0_2 * (256 : Int)) + nextV x0_0 (x0_1 + (1 : Int)) (nextS x0_0 x0_1 x0_2)) else nextV x0_0 x0_1 x0_2) x1
def r141_1 (x0_0 : List Row) (x1 : Int) : List (List T) := bif decide (x1 ≤ (1 : Int)) then x0_0 else bif decide (x1 > (200 : Int)) then x0_0 else x0_0
theorem c141_1 (x0_0 : List Row) (x1 : Int) : r141_1 x0_0 x1 = x0_0 := by simp only [r141_1, Bool.cond_self, bif_tf, bif_ft, Bool.not_not, List.drop_zero, List.take_length]
def r141_2 (x0_1 : Int) (x1 : Int) : Int := bif decide (x1 ≤ (1 : Int)) then x0_1 else bif decide (x1 > (200 : Int)) then x0_1 + (1 : Int) + (1 : Int) else x0_1 + (1 : Int)
def g141_2 (x1 : Int) : Int := bif decide (x1 ≤ (1 : Int)) then (0 : Int) else bif decide (x1 > (200 : Int)) then (1 : Int) + (1 : Int) else (1 : Int)
theorem b141_2 (x1 : Int) : bd (g141_2 x1) 2 := by
  unfold g141_2
  exact (bd_cond (u := 0) (v := 2) (w := 2) ⟨by decide, by decide⟩ (bd_cond (u := 2) (v := 1) (w := 2) (bd_add (u := 1) (v := 1) (w := 2) ⟨by decide, by decide⟩ ⟨by decide, by decide⟩ (by decide)) ⟨by decide, by decide⟩ (by decide) (by decide)) (by decide) (by decide))
theorem c141_2 (x0_1 : Int) (x1 : Int) : r141_2 x0_1 x1 = x0_1 + g141_2 x1 := by simp only [r141_2, g141_2, bif_p1 x0_1, bif_p2 x0_1, bif_p3 x0_1, Int.add_assoc, Bool.cond_self]
def g141_3 (x0_0 : List Row) (x0_1 : Int) (x0_2 : Int) (x1 : Int) : Int := bif decide (x1 ≤ (1 : Int)) then x0_2 else bif decide (x1 > (200 : Int)) then nextS x0_0 (x0_1 + (1 : Int)) (nextS x0_0 x0_1 x0_2) else nextS x0_0 x0_1 x0_2
theorem k141 (x0_0 : List Row) (x0_1 : Int) (x0_2 : Int) (x1 : Int) (h : (bytesOk x0_0 && (okTo (1 : Int) x0_1 && (x1 != (0 : Int) || decide (x1 ≤ (1 : Int))))) = true) : ((okTo (0 : Int) x0_1 && bytesOk x0_0 && true && ((okTo (0 : Int) (x0_1 + (1 : Int)) && bytesOk x0_0 && true || !decide (x1 > (200 : Int))) && true && (x1 != (0 : Int) && true && true)) || decide (x1 ≤ (1 : Int))) && true) = true := by
  obtain ⟨h0, h⟩ := Bool.and_eq_true_iff.1 h
  obtain ⟨h1, h⟩ := Bool.and_eq_true_iff.1 h
  have h2 := h
  have p0 : (okTo (0 : Int) x0_1) = true := (okTo_le (v := 0) h1 (by decide))
  have p1 : (okTo (0 : Int) (x0_1 + (1 : Int))) = true := (okTo_add (u := 1) (v := 0) (w := 1) (okTo_le (v := 1) h1 (by decide)) ⟨by decide, by decide⟩ (by decide))
  simp only [h0, h2, p0, p1, Bool.and_true, Bool.true_and, Bool.or_true, Bool.true_or, Bool.or_false, Bool.false_or, Bool.and_self, Bool.cond_self, Bool.not_true, Bool.not_false, Bool.false_and, Bool.and_false, u64_dec, Nat.zero_add, Nat.le_refl, decide_true, eq_self, List.drop_zero, List.take_length, Bool.not_not, bif_tf, bif_ft]
theorem d141 (x0_0 : List Row) (x0_1 : Int) (x0_2 : Int) (x1 : Int) : fnT Q217 [] [] 0 F141 [.one (.ptr 0 0 0), .one (.lit (.int .i64 x1))] [.box [.imm true 1 x0_0, .lit (.int .i64 x0_1), .lit (.int .u64 x0_2)]] = some ((SV.one (T.lit (Value.int IntKind.i64 (g141_0 x0_0 x0_1 x0_2 x1))), [Blk.box [T.imm true (1 : Nat) (r141_1 x0_0 x1), T.lit (Value.int IntKind.i64 (r141_2 x0_1 x1)), T.lit (Value.int IntKind.u64 (g141_3 x0_0 x0_1 x0_2 x1))]]), (okTo (0 : Int) x0_1 && bytesOk x0_0 && true && ((okTo (0 : Int) (x0_1 + (1 : Int)) && bytesOk x0_0 && true || !decide (x1 > (200 : Int))) && true && (x1 != (0 : Int) && true && true)) || decide (x1 ≤ (1 : Int))) && true) := by kernel_rfl
theorem e141 (x0_0 : List Row) (x0_1 : Int) (x0_2 : Int) (x1 : Int) : fnT Q217 [] [] 0 F141 [.one (.ptr 0 0 0), .one (.lit (.int .i64 x1))] [.box [.imm true 1 x0_0, .lit (.int .i64 x0_1), .lit (.int .u64 x0_2)]] = some ((SV.one (T.lit (Value.int IntKind.i64 (g141_0 x0_0 x0_1 x0_2 x1))), [Blk.box [T.imm true (1 : Nat) x0_0, T.lit (Value.int IntKind.i64 (x0_1 + g141_2 x1)), T.lit (Value.int IntKind.u64 (g141_3 x0_0 x0_1 x0_2 x1))]]), (okTo (0 : Int) x0_1 && bytesOk x0_0 && true && ((okTo (0 : Int) (x0_1 + (1 : Int)) && bytesOk x0_0 && true || !decide (x1 > (200 : Int))) && true && (x1 != (0 : Int) && true && true)) || decide (x1 ≤ (1 : Int))) && true) := by rw [d141, c141_1, c141_2]
def q141 : List SV → List Blk → Option ((SV × List Blk) × Bool)
  | [.one (.ptr 0 0 0), .one (.lit (.int .i64 x1))], [.box [.imm true 1 x0_0, .lit (.int .i64 x0_1), .lit (.int .u64 x0_2)]] => some ((SV.one (T.lit (Value.int IntKind.i64 (g141_0 x0_0 x0_1 x0_2 x1))), [Blk.box [T.imm true (1 : Nat) x0_0, T.lit (Value.int IntKind.i64 (x0_1 + g141_2 x1)), T.lit (Value.int IntKind.u64 (g141_3 x0_0 x0_1 x0_2 x1))]]), bytesOk x0_0 && (okTo (1 : Int) x0_1 && (x1 != (0 : Int) || decide (x1 ≤ (1 : Int)))))
  | _, _ => none
theorem t141 (args : List SV) (hp : List Blk) (r : SV × List Blk) (h : q141 args hp = some (r, true)) : R 141 args hp = some r := by
  unfold q141 at h
  split at h
  · rename_i x1 x0_0 x0_1 x0_2; exact R_fn at141 0 (fnT_run Q217_ok (okTrans (e141 x0_0 x0_1 x0_2 x1) (k141 x0_0 x0_1 x0_2 x1) h))
  · simp at h
noncomputable def Q141 : Qt := qcons 141 q141 Q217
theorem Q141_ok : QOk R Q141 := qcons_ok t141 Q217_ok
theorem pick_rng {rows : List Row} (hb : bytesOk rows = true) {p : Int} (h0 : 0 ≤ p) (s : Int) {n : Int} (hn : 2 ≤ n) : 0 ≤ g141_0 rows p s n ∧ g141_0 rows p s n < n := by
  unfold g141_0
  have e1 : decide (n ≤ (1 : Int)) = false := by simp; omega
  rw [e1, cond_false]
  have r1 := nextV_rng hb h0 s
  have r2 := nextV_rng hb (show 0 ≤ p + 1 by omega) (nextS rows p s)
  have hx : 0 ≤ (bif decide (n > (200 : Int)) then IntKind.wrap IntKind.i64 (IntKind.wrap IntKind.i64 (nextV rows p s * (256 : Int)) + nextV rows (p + (1 : Int)) (nextS rows p s)) else nextV rows p s) := by
    cases decide (n > (200 : Int))
    · exact r1.1
    · simp only [cond_true, IntKind.wrap_i64]
      omega
  exact ⟨Int.tmod_nonneg _ hx, Int.tmod_lt_of_pos _ (by omega)⟩
/-! (*spec.l1Cur).among -/
def g133_0 (x0_0 : List Row) (x0_1 : Int) (x0_2 : Int) (x1 : List Row) : Int := intAt x1 (Int.toNat (g141_0 x0_0 x0_1 x0_2 (↑(List.length x1) : Int))) (0 : Nat)
def r133_1 (x0_1 : Int) (x1 : List Row) : Int := x0_1 + g141_2 (↑(List.length x1) : Int)
def g133_1 (x1 : List Row) : Int := g141_2 (↑(List.length x1) : Int)
theorem b133_1 (x1 : List Row) : bd (g133_1 x1) 2 := by
  unfold g133_1
  exact (b141_2 _)
theorem c133_1 (x0_1 : Int) (x1 : List Row) : r133_1 x0_1 x1 = x0_1 + g133_1 x1 := by simp only [r133_1, g133_1, bif_p1 x0_1, bif_p2 x0_1, bif_p3 x0_1, Int.add_assoc, Bool.cond_self]
def g133_2 (x0_0 : List Row) (x0_1 : Int) (x0_2 : Int) (x1 : List Row) : Int := g141_3 x0_0 x0_1 x0_2 (↑(List.length x1) : Int)
theorem k133 (x0_0 : List Row) (x0_1 : Int) (x0_2 : Int) (px1 : Bool) (x1 : List Row) (h : (bytesOk x0_0 && (okTo (2 : Int) x0_1 && listOk x1)) = true) : (bytesOk x0_0 && (okTo (1 : Int) x0_1 && ((↑(List.length x1) : Int) != (0 : Int) || decide ((↑(List.length x1) : Int) ≤ (1 : Int)))) && (inRow [Kd.int IntKind.i64] x1 (g141_0 x0_0 x0_1 x0_2 (↑(List.length x1) : Int)) && true) && true && true) = true := by
  obtain ⟨h0, h⟩ := Bool.and_eq_true_iff.1 h
  obtain ⟨h1, h2⟩ := Bool.and_eq_true_iff.1 h
  have hl : 2 ≤ x1.length := by simp only [listOk, Bool.and_eq_true, decide_eq_true_eq] at h2; exact h2.1
  have hp := (okTo_iff.1 h1).1
  have hr := pick_rng h0 hp x0_2 (n := (x1.length : Int)) (by omega)
  have hi := inRow_list h2 hr.1 hr.2
  have hne : ((x1.length : Int) != 0) = true := by rw [bne_iff_ne]; omega
  have h1' : okTo 1 x0_1 = true := okTo_le h1 (by decide)
  simp only [h0, h1', hi, hne, Bool.and_true, Bool.true_and, Bool.or_true, Bool.true_or]
theorem d133 (x0_0 : List Row) (x0_1 : Int) (x0_2 : Int) (px1 : Bool) (x1 : List Row) : fnT Q141 [(10, [.int .i64]), (11, [.int .i64])] [] 0 F133 [.one (.ptr 0 0 0), .one (.imm px1 1 x1)] [.box [.imm true 1 x0_0, .lit (.int .i64 x0_1), .lit (.int .u64 x0_2)]] = some ((SV.one (T.lit (Value.int IntKind.i64 (g133_0 x0_0 x0_1 x0_2 x1))), [Blk.box [T.imm true (1 : Nat) x0_0, T.lit (Value.int IntKind.i64 (r133_1 x0_1 x1)), T.lit (Value.int IntKind.u64 (g133_2 x0_0 x0_1 x0_2 x1))]]), bytesOk x0_0 && (okTo (1 : Int) x0_1 && ((↑(List.length x1) : Int) != (0 : Int) || decide ((↑(List.length x1) : Int) ≤ (1 : Int)))) && (inRow [Kd.int IntKind.i64] x1 (g141_0 x0_0 x0_1 x0_2 (↑(List.length x1) : Int)) && true) && true && true) := by kernel_rfl
theorem e133 (x0_0 : List Row) (x0_1 : Int) (x0_2 : Int) (px1 : Bool) (x1 : List Row) : fnT Q141 [(10, [.int .i64]), (11, [.int .i64])] [] 0 F133 [.one (.ptr 0 0 0), .one (.imm px1 1 x1)] [.box [.imm true 1 x0_0, .lit (.int .i64 x0_1), .lit (.int .u64 x0_2)]] = some ((SV.one (T.lit (Value.int IntKind.i64 (g133_0 x0_0 x0_1 x0_2 x1))), [Blk.box [T.imm true (1 : Nat) x0_0, T.lit (Value.int IntKind.i64 (x0_1 + g133_1 x1)), T.lit (Value.int IntKind.u64 (g133_2 x0_0 x0_1 x0_2 x1))]]), bytesOk x0_0 && (okTo (1 : Int) x0_1 && ((↑(List.length x1) : Int) != (0 : Int) || decide ((↑(List.length x1) : Int) ≤ (1 : Int)))) && (inRow [Kd.int IntKind.i64] x1 (g141_0 x0_0 x0_1 x0_2 (↑(List.length x1) : Int)) && true) && true && true) := by rw [d133, c133_1]
def q133 : List SV → List Blk → Option ((SV × List Blk) × Bool)
  | [.one (.ptr 0 0 0), .one (.imm px1 1 x1)], [.box [.imm true 1 x0_0, .lit (.int .i64 x0_1), .lit (.int .u64 x0_2)]] => some ((SV.one (T.lit (Value.int IntKind.i64 (g133_0 x0_0 x0_1 x0_2 x1))), [Blk.box [T.imm true (1 : Nat) x0_0, T.lit (Value.int IntKind.i64 (x0_1 + g133_1 x1)), T.lit (Value.int IntKind.u64 (g133_2 x0_0 x0_1 x0_2 x1))]]), bytesOk x0_0 && (okTo (2 : Int) x0_1 && listOk x1))
  | _, _ => none
theorem t133 (args : List SV) (hp : List Blk) (r : SV × List Blk) (h : q133 args hp = some (r, true)) : R 133 args hp = some r := by
  unfold q133 at h
  split at h
  · rename_i px1 x1 x0_0 x0_1 x0_2; exact R_fn at133 0 (fnT_run Q141_ok (okTrans (e133 x0_0 x0_1 x0_2 px1 x1) (k133 x0_0 x0_1 x0_2 px1 x1) h))
  · simp at h
noncomputable def Q133 : Qt := qcons 133 q133 Q141
theorem Q133_ok : QOk R Q133 := qcons_ok t133 Q141_ok
/-! (*spec.l1Cur).size -/
def g148_0 (x0_0 : List Row) (x0_1 : Int) (x0_2 : Int) : Int := g133_0 x0_0 x0_1 x0_2 (ri [(1 : Int), (2 : Int), (2 : Int), (1 : Int), (1 : Int), (2 : Int), (2 : Int), (2 : Int), (0 : Int), (3 : Int)])
def r148_1 (x0_1 : Int) : Int := x0_1 + (1 : Int)
theorem c148_1 (x0_1 : Int) : r148_1 x0_1 = x0_1 + (1 : Int) := by simp only [r148_1, bif_p1 x0_1, bif_p2 x0_1, bif_p3 x0_1, Int.add_assoc, Bool.cond_self]
def g148_2 (x0_0 : List Row) (x0_1 : Int) (x0_2 : Int) : Int := g133_2 x0_0 x0_1 x0_2 (ri [(1 : Int), (2 : Int), (2 : Int), (1 : Int), (1 : Int), (2 : Int), (2 : Int), (2 : Int), (0 : Int), (3 : Int)])
theorem k148 (x0_0 : List Row) (x0_1 : Int) (x0_2 : Int) (h : (bytesOk x0_0 && okTo (2 : Int) x0_1) = true) : (bytesOk x0_0 && (okTo (2 : Int) x0_1 && true) && true && true && true) = true := by
  obtain ⟨h0, h⟩ := Bool.and_eq_true_iff.1 h
  have h1 := h
  have p0 : (okTo (2 : Int) x0_1) = true := (okTo_le (v := 2) h1 (by decide))
  simp only [h0, p0, Bool.and_true, Bool.true_and, Bool.or_true, Bool.true_or, Bool.or_false, Bool.false_or, Bool.and_self, Bool.cond_self, Bool.not_true, Bool.not_false, Bool.false_and, Bool.and_false, u64_dec, Nat.zero_add, Nat.le_refl, decide_true, eq_self, List.drop_zero, List.take_length, Bool.not_not, bif_tf, bif_ft]
theorem d148 (x0_0 : List Row) (x0_1 : Int) (x0_2 : Int) : fnT Q133 [] [] 0 F148 [.one (.ptr 0 0 0)] [.box [.imm true 1 x0_0, .lit (.int .i64 x0_1), .lit (.int .u64 x0_2)]] = some ((SV.one (T.lit (Value.int IntKind.i64 (g148_0 x0_0 x0_1 x0_2))), [Blk.box [T.imm true (1 : Nat) x0_0, T.lit (Value.int IntKind.i64 (r148_1 x0_1)), T.lit (Value.int IntKind.u64 (g148_2 x0_0 x0_1 x0_2))]]), bytesOk x0_0 && (okTo (2 : Int) x0_1 && true) && true && true && true) := by kernel_rfl
theorem e148 (x0_0 : List Row) (x0_1 : Int) (x0_2 : Int) : fnT Q133 [] [] 0 F148 [.one (.ptr 0 0 0)] [.box [.imm true 1 x0_0, .lit (.int .i64 x0_1), .lit (.int .u64 x0_2)]] = some ((SV.one (T.lit (Value.int IntKind.i64 (g148_0 x0_0 x0_1 x0_2))), [Blk.box [T.imm true (1 : Nat) x0_0, T.lit (Value.int IntKind.i64 (x0_1 + (1 : Int))), T.lit (Value.int IntKind.u64 (g148_2 x0_0 x0_1 x0_2))]]), bytesOk x0_0 && (okTo (2 : Int) x0_1 && true) && true && true && true) := by rw [d148, c148_1]
def q148 : List SV → List Blk → Option ((SV × List Blk) × Bool)
  | [.one (.ptr 0 0 0)], [.box [.imm true 1 x0_0, .lit (.int .i64 x0_1), .lit (.int .u64 x0_2)]] => some ((SV.one (T.lit (Value.int IntKind.i64 (g148_0 x0_0 x0_1 x0_2))), [Blk.box [T.imm true (1 : Nat) x0_0, T.lit (Value.int IntKind.i64 (x0_1 + (1 : Int))), T.lit (Value.int IntKind.u64 (g148_2 x0_0 x0_1 x0_2))]]), bytesOk x0_0 && okTo (2 : Int) x0_1)
  | _, _ => none
theorem t148 (args : List SV) (hp : List Blk) (r : SV × List Blk) (h : q148 args hp = some (r, true)) : R 148 args hp = some r := by
  unfold q148 at h
  split at h
  · rename_i x0_0 x0_1 x0_2; exact R_fn at148 0 (fnT_run Q133_ok (okTrans (e148 x0_0 x0_1 x0_2) (k148 x0_0 x0_1 x0_2) h))
  · simp at h
noncomputable def Q148 : Qt := qcons 148 q148 Q133
theorem Q148_ok : QOk R Q148 := qcons_ok t148 Q133_ok
/-! (*spec.l1Cur).one -/
def g167_0 (x0_0 : List Row) (x0_1 : Int) (x0_2 : Int) (x1 : Int) : Bool := g141_0 x0_0 x0_1 x0_2 x1 == (0 : Int)
def r167_1 (x0_1 : Int) (x1 : Int) : Int := x0_1 + g141_2 x1
def g167_1 (x1 : Int) : Int := g141_2 x1
theorem b167_1 (x1 : Int) : bd (g167_1 x1) 2 := by
  unfold g167_1
  exact (b141_2 _)
theorem c167_1 (x0_1 : Int) (x1 : Int) : r167_1 x0_1 x1 = x0_1 + g167_1 x1 := by simp only [r167_1, g167_1, bif_p1 x0_1, bif_p2 x0_1, bif_p3 x0_1, Int.add_assoc, Bool.cond_self]
def g167_2 (x0_0 : List Row) (x0_1 : Int) (x0_2 : Int) (x1 : Int) : Int := g141_3 x0_0 x0_1 x0_2 x1
theorem k167 (x0_0 : List Row) (x0_1 : Int) (x0_2 : Int) (x1 : Int) (h : (bytesOk x0_0 && (okTo (1 : Int) x0_1 && (x1 != (0 : Int) || decide (x1 ≤ (1 : Int))))) = true) : (bytesOk x0_0 && (okTo (1 : Int) x0_1 && (x1 != (0 : Int) || decide (x1 ≤ (1 : Int)))) && true && true && true) = true := by
  obtain ⟨h0, h⟩ := Bool.and_eq_true_iff.1 h
  obtain ⟨h1, h⟩ := Bool.and_eq_true_iff.1 h
  have h2 := h
  have p0 : (okTo (1 : Int) x0_1) = true := (okTo_le (v := 1) h1 (by decide))
  simp only [h0, h2, p0, Bool.and_true, Bool.true_and, Bool.or_true, Bool.true_or, Bool.or_false, Bool.false_or, Bool.and_self, Bool.cond_self, Bool.not_true, Bool.not_false, Bool.false_and, Bool.and_false, u64_dec, Nat.zero_add, Nat.le_refl, decide_true, eq_self, List.drop_zero, List.take_length, Bool.not_not, bif_tf, bif_ft]
theorem d167 (x0_0 : List Row) (x0_1 : Int) (x0_2 : Int) (x1 : Int) : fnT Q148 [] [] 0 F167 [.one (.ptr 0 0 0), .one (.lit (.int .i64 x1))] [.box [.imm true 1 x0_0, .lit (.int .i64 x0_1), .lit (.int .u64 x0_2)]] = some ((SV.one (T.lit (Value.bool (g167_0 x0_0 x0_1 x0_2 x1))), [Blk.box [T.imm true (1 : Nat) x0_0, T.lit (Value.int IntKind.i64 (r167_1 x0_1 x1)), T.lit (Value.int IntKind.u64 (g167_2 x0_0 x0_1 x0_2 x1))]]), bytesOk x0_0 && (okTo (1 : Int) x0_1 && (x1 != (0 : Int) || decide (x1 ≤ (1 : Int)))) && true && true && true) := by kernel_rfl
theorem e167 (x0_0 : List Row) (x0_1 : Int) (x0_2 : Int) (x1 : Int) : fnT Q148 [] [] 0 F167 [.one (.ptr 0 0 0), .one (.lit (.int .i64 x1))] [.box [.imm true 1 x0_0, .lit (.int .i64 x0_1), .lit (.int .u64 x0_2)]] = some ((SV.one (T.lit (Value.bool (g167_0 x0_0 x0_1 x0_2 x1))), [Blk.box [T.imm true (1 : Nat) x0_0, T.lit (Value.int IntKind.i64 (x0_1 + g167_1 x1)), T.lit (Value.int IntKind.u64 (g167_2 x0_0 x0_1 x0_2 x1))]]), bytesOk x0_0 && (okTo (1 : Int) x0_1 && (x1 != (0 : Int) || decide (x1 ≤ (1 : Int)))) && true && true && true) := by rw [d167, c167_1]
def q167 : List SV → List Blk → Option ((SV × List Blk) × Bool)
  | [.one (.ptr 0 0 0), .one (.lit (.int .i64 x1))], [.box [.imm true 1 x0_0, .lit (.int .i64 x0_1), .lit (.int .u64 x0_2)]] => some ((SV.one (T.lit (Value.bool (g167_0 x0_0 x0_1 x0_2 x1))), [Blk.box [T.imm true (1 : Nat) x0_0, T.lit (Value.int IntKind.i64 (x0_1 + g167_1 x1)), T.lit (Value.int IntKind.u64 (g167_2 x0_0 x0_1 x0_2 x1))]]), bytesOk x0_0 && (okTo (1 : Int) x0_1 && (x1 != (0 : Int) || decide (x1 ≤ (1 : Int)))))
  | _, _ => none
theorem t167 (args : List SV) (hp : List Blk) (r : SV × List Blk) (h : q167 args hp = some (r, true)) : R 167 args hp = some r := by
  unfold q167 at h
  split at h
  · rename_i x1 x0_0 x0_1 x0_2; exact R_fn at167 0 (fnT_run Q148_ok (okTrans (e167 x0_0 x0_1 x0_2 x1) (k167 x0_0 x0_1 x0_2 x1) h))
  · simp at h
noncomputable def Q167 : Qt := qcons 167 q167 Q148
theorem Q167_ok : QOk R Q167 := qcons_ok t167 Q148_ok
/-! (*spec.l1Cur).value -/
def g166_0 (x0_0 : List Row) (x0_1 : Int) (x0_2 : Int) : Int := bif g167_0 x0_0 x0_1 x0_2 (2 : Int) then g133_0 x0_0 (x0_1 + (1 : Int)) (g167_2 x0_0 x0_1 x0_2 (2 : Int)) (ri [(0 : Int), (1 : Int), (127 : Int), (128 : Int), (255 : Int), (256 : Int), (32767 : Int), (32768 : Int), (65535 : Int), (65536 : Int), (-1 : Int)]) else IntKind.wrap IntKind.i64 (IntKind.wrap IntKind.i64 (IntKind.wrap IntKind.i64 (g141_0 x0_0 (x0_1 + (1 : Int)) (g167_2 x0_0 x0_1 x0_2 (2 : Int)) (256 : Int) * g141_0 x0_0 (x0_1 + (1 : Int) + (2 : Int)) (g141_3 x0_0 (x0_1 + (1 : Int)) (g167_2 x0_0 x0_1 x0_2 (2 : Int)) (256 : Int)) (2 : Int)) * (256 : Int)) + g141_0 x0_0 (x0_1 + (1 : Int) + (2 : Int) + (1 : Int)) (g141_3 x0_0 (x0_1 + (1 : Int) + (2 : Int)) (g141_3 x0_0 (x0_1 + (1 : Int)) (g167_2 x0_0 x0_1 x0_2 (2 : Int)) (256 : Int)) (2 : Int)) (256 : Int))
def r166_1 (x0_0 : List Row) (x0_1 : Int) (x0_2 : Int) : List (List T) := bif g167_0 x0_0 x0_1 x0_2 (2 : Int) then x0_0 else x0_0
theorem c166_1 (x0_0 : List Row) (x0_1 : Int) (x0_2 : Int) : r166_1 x0_0 x0_1 x0_2 = x0_0 := by simp only [r166_1, Bool.cond_self, bif_tf, bif_ft, Bool.not_not, List.drop_zero, List.take_length]
def r166_2 (x0_0 : List Row) (x0_1 : Int) (x0_2 : Int) : Int := bif g167_0 x0_0 x0_1 x0_2 (2 : Int) then x0_1 + (1 : Int) + (1 : Int) else x0_1 + (1 : Int) + (2 : Int) + (1 : Int) + (2 : Int)
def g166_2 (x0_0 : List Row) (x0_1 : Int) (x0_2 : Int) : Int := bif g167_0 x0_0 x0_1 x0_2 (2 : Int) then (1 : Int) + (1 : Int) else (1 : Int) + (2 : Int) + (1 : Int) + (2 : Int)
theorem b166_2 (x0_0 : List Row) (x0_1 : Int) (x0_2 : Int) : bd (g166_2 x0_0 x0_1 x0_2) 6 := by
  unfold g166_2
  exact (bd_cond (u := 2) (v := 6) (w := 6) (bd_add (u := 1) (v := 1) (w := 2) ⟨by decide, by decide⟩ ⟨by decide, by decide⟩ (by decide)) (bd_add (u := 4) (v := 2) (w := 6) (bd_add (u := 3) (v := 1) (w := 4) (bd_add (u := 1) (v := 2) (w := 3) ⟨by decide, by decide⟩ ⟨by decide, by decide⟩ (by decide)) ⟨by decide, by decide⟩ (by decide)) ⟨by decide, by decide⟩ (by decide)) (by decide) (by decide))
theorem c166_2 (x0_0 : List Row) (x0_1 : Int) (x0_2 : Int) : r166_2 x0_0 x0_1 x0_2 = x0_1 + g166_2 x0_0 x0_1 x0_2 := by simp only [r166_2, g166_2, bif_p1 x0_1, bif_p2 x0_1, bif_p3 x0_1, Int.add_assoc, Bool.cond_self]
def g166_3 (x0_0 : List Row) (x0_1 : Int) (x0_2 : Int) : Int := bif g167_0 x0_0 x0_1 x0_2 (2 : Int) then g133_2 x0_0 (x0_1 + (1 : Int)) (g167_2 x0_0 x0_1 x0_2 (2 : Int)) (ri [(0 : Int), (1 : Int), (127 : Int), (128 : Int), (255 : Int), (256 : Int), (32767 : Int), (32768 : Int), (65535 : Int), (65536 : Int), (-1 : Int)]) else g141_3 x0_0 (x0_1 + (1 : Int) + (2 : Int) + (1 : Int)) (g141_3 x0_0 (x0_1 + (1 : Int) + (2 : Int)) (g141_3 x0_0 (x0_1 + (1 : Int)) (g167_2 x0_0 x0_1 x0_2 (2 : Int)) (256 : Int)) (2 : Int)) (256 : Int)
theorem k166 (x0_0 : List Row) (x0_1 : Int) (x0_2 : Int) (h : (bytesOk x0_0 && okTo (5 : Int) x0_1) = true) : (bytesOk x0_0 && (okTo (1 : Int) x0_1 && true) && true && ((bytesOk x0_0 && (okTo (2 : Int) (x0_1 + (1 : Int)) && true) && true && true || !g167_0 x0_0 x0_1 x0_2 (2 : Int)) && true) && (bytesOk x0_0 && (okTo (1 : Int) (x0_1 + (1 : Int)) && true) && (bytesOk x0_0 && (okTo (1 : Int) (x0_1 + (1 : Int) + (2 : Int)) && true) && (bytesOk x0_0 && (okTo (1 : Int) (x0_1 + (1 : Int) + (2 : Int) + (1 : Int)) && true) && true)) && true || g167_0 x0_0 x0_1 x0_2 (2 : Int)) && true) = true := by
  obtain ⟨h0, h⟩ := Bool.and_eq_true_iff.1 h
  have h1 := h
  have p0 : (okTo (1 : Int) x0_1) = true := (okTo_le (v := 1) h1 (by decide))
  have p1 : (okTo (2 : Int) (x0_1 + (1 : Int))) = true := (okTo_add (u := 1) (v := 2) (w := 3) (okTo_le (v := 3) h1 (by decide)) ⟨by decide, by decide⟩ (by decide))
  have p2 : (okTo (1 : Int) (x0_1 + (1 : Int))) = true := (okTo_add (u := 1) (v := 1) (w := 2) (okTo_le (v := 2) h1 (by decide)) ⟨by decide, by decide⟩ (by decide))
  have p3 : (okTo (1 : Int) (x0_1 + (1 : Int) + (2 : Int))) = true := (okTo_add (u := 2) (v := 1) (w := 3) (okTo_add (u := 1) (v := 3) (w := 4) (okTo_le (v := 4) h1 (by decide)) ⟨by decide, by decide⟩ (by decide)) ⟨by decide, by decide⟩ (by decide))
  have p4 : (okTo (1 : Int) (x0_1 + (1 : Int) + (2 : Int) + (1 : Int))) = true := (okTo_add (u := 1) (v := 1) (w := 2) (okTo_add (u := 2) (v := 2) (w := 4) (okTo_add (u := 1) (v := 4) (w := 5) (okTo_le (v := 5) h1 (by decide)) ⟨by decide, by decide⟩ (by decide)) ⟨by decide, by decide⟩ (by decide)) ⟨by decide, by decide⟩ (by decide))
  simp only [h0, p0, p1, p2, p3, p4, Bool.and_true, Bool.true_and, Bool.or_true, Bool.true_or, Bool.or_false, Bool.false_or, Bool.and_self, Bool.cond_self, Bool.not_true, Bool.not_false, Bool.false_and, Bool.and_false, u64_dec, Nat.zero_add, Nat.le_refl, decide_true, eq_self, List.drop_zero, List.take_length, Bool.not_not, bif_tf, bif_ft]
theorem d166 (x0_0 : List Row) (x0_1 : Int) (x0_2 : Int) : fnT Q167 [] [] 0 F166 [.one (.ptr 0 0 0)] [.box [.imm true 1 x0_0, .lit (.int .i64 x0_1), .lit (.int .u64 x0_2)]] = some ((SV.one (T.lit (Value.int IntKind.i64 (g166_0 x0_0 x0_1 x0_2))), [Blk.box [T.imm true (1 : Nat) (r166_1 x0_0 x0_1 x0_2), T.lit (Value.int IntKind.i64 (r166_2 x0_0 x0_1 x0_2)), T.lit (Value.int IntKind.u64 (g166_3 x0_0 x0_1 x0_2))]]), bytesOk x0_0 && (okTo (1 : Int) x0_1 && true) && true && ((bytesOk x0_0 && (okTo (2 : Int) (x0_1 + (1 : Int)) && true) && true && true || !g167_0 x0_0 x0_1 x0_2 (2 : Int)) && true) && (bytesOk x0_0 && (okTo (1 : Int) (x0_1 + (1 : Int)) && true) && (bytesOk x0_0 && (okTo (1 : Int) (x0_1 + (1 : Int) + (2 : Int)) && true) && (bytesOk x0_0 && (okTo (1 : Int) (x0_1 + (1 : Int) + (2 : Int) + (1 : Int)) && true) && true)) && true || g167_0 x0_0 x0_1 x0_2 (2 : Int)) && true) := by kernel_rfl
theorem e166 (x0_0 : List Row) (x0_1 : Int) (x0_2 : Int) : fnT Q167 [] [] 0 F166 [.one (.ptr 0 0 0)] [.box [.imm true 1 x0_0, .lit (.int .i64 x0_1), .lit (.int .u64 x0_2)]] = some ((SV.one (T.lit (Value.int IntKind.i64 (g166_0 x0_0 x0_1 x0_2))), [Blk.box [T.imm true (1 : Nat) x0_0, T.lit (Value.int IntKind.i64 (x0_1 + g166_2 x0_0 x0_1 x0_2)), T.lit (Value.int IntKind.u64 (g166_3 x0_0 x0_1 x0_2))]]), bytesOk x0_0 && (okTo (1 : Int) x0_1 && true) && true && ((bytesOk x0_0 && (okTo (2 : Int) (x0_1 + (1 : Int)) && true) && true && true || !g167_0 x0_0 x0_1 x0_2 (2 : Int)) && true) && (bytesOk x0_0 && (okTo (1 : Int) (x0_1 + (1 : Int)) && true) && (bytesOk x0_0 && (okTo (1 : Int) (x0_1 + (1 : Int) + (2 : Int)) && true) && (bytesOk x0_0 && (okTo (1 : Int) (x0_1 + (1 : Int) + (2 : Int) + (1 : Int)) && true) && true)) && true || g167_0 x0_0 x0_1 x0_2 (2 : Int)) && true) := by rw [d166, c166_1, c166_2]
def q166 : List SV → List Blk → Option ((SV × List Blk) × Bool)
  | [.one (.ptr 0 0 0)], [.box [.imm true 1 x0_0, .lit (.int .i64 x0_1), .lit (.int .u64 x0_2)]] => some ((SV.one (T.lit (Value.int IntKind.i64 (g166_0 x0_0 x0_1 x0_2))), [Blk.box [T.imm true (1 : Nat) x0_0, T.lit (Value.int IntKind.i64 (x0_1 + g166_2 x0_0 x0_1 x0_2)), T.lit (Value.int IntKind.u64 (g166_3 x0_0 x0_1 x0_2))]]), bytesOk x0_0 && okTo (5 : Int) x0_1)
  | _, _ => none
theorem t166 (args : List SV) (hp : List Blk) (r : SV × List Blk) (h : q166 args hp = some (r, true)) : R 166 args hp = some r := by
  unfold q166 at h
  split at h
  · rename_i x0_0 x0_1 x0_2; exact R_fn at166 0 (fnT_run Q167_ok (okTrans (e166 x0_0 x0_1 x0_2) (k166 x0_0 x0_1 x0_2) h))
  · simp at h
noncomputable def Q166 : Qt := qcons 166 q166 Q167
theorem Q166_ok : QOk R Q166 := qcons_ok t166 Q167_ok
/-! (*spec.l1Cur).fit -/
def g149_0 (x0_0 : List Row) (x0_1 : Int) (x0_2 : Int) (x1 : Int) : Int := bif bif x1 == (1 : Int) then !g167_0 x0_0 (x0_1 + g166_2 x0_0 x0_1 x0_2) (g166_3 x0_0 x0_1 x0_2) (20 : Int) else false then IntKind.wrap IntKind.i64 (↑(BitVec.toNat (BitVec.ofInt (64 : Nat) (g166_0 x0_0 x0_1 x0_2) &&& BitVec.ofInt (64 : Nat) (255 : Int))) : Int) else g166_0 x0_0 x0_1 x0_2
def r149_1 (x0_0 : List Row) (x1 : Int) : List (List T) := bif x1 == (1 : Int) then x0_0 else x0_0
theorem c149_1 (x0_0 : List Row) (x1 : Int) : r149_1 x0_0 x1 = x0_0 := by simp only [r149_1, Bool.cond_self, bif_tf, bif_ft, Bool.not_not, List.drop_zero, List.take_length]
def r149_2 (x0_0 : List Row) (x0_1 : Int) (x0_2 : Int) (x1 : Int) : Int := bif x1 == (1 : Int) then x0_1 + g166_2 x0_0 x0_1 x0_2 + (1 : Int) else x0_1 + g166_2 x0_0 x0_1 x0_2
def g149_2 (x0_0 : List Row) (x0_1 : Int) (x0_2 : Int) (x1 : Int) : Int := bif x1 == (1 : Int) then g166_2 x0_0 x0_1 x0_2 + (1 : Int) else g166_2 x0_0 x0_1 x0_2
theorem b149_2 (x0_0 : List Row) (x0_1 : Int) (x0_2 : Int) (x1 : Int) : bd (g149_2 x0_0 x0_1 x0_2 x1) 7 := by
  unfold g149_2
  exact (bd_cond (u := 7) (v := 6) (w := 7) (bd_add (u := 6) (v := 1) (w := 7) (b166_2 _ _ _) ⟨by decide, by decide⟩ (by decide)) (b166_2 _ _ _) (by decide) (by decide))
theorem c149_2 (x0_0 : List Row) (x0_1 : Int) (x0_2 : Int) (x1 : Int) : r149_2 x0_0 x0_1 x0_2 x1 = x0_1 + g149_2 x0_0 x0_1 x0_2 x1 := by simp only [r149_2, g149_2, bif_p1 x0_1, bif_p2 x0_1, bif_p3 x0_1, Int.add_assoc, Bool.cond_self]
def g149_3 (x0_0 : List Row) (x0_1 : Int) (x0_2 : Int) (x1 : Int) : Int := bif x1 == (1 : Int) then g167_2 x0_0 (x0_1 + g166_2 x0_0 x0_1 x0_2) (g166_3 x0_0 x0_1 x0_2) (20 : Int) else g166_3 x0_0 x0_1 x0_2
theorem k149 (x0_0 : List Row) (x0_1 : Int) (x0_2 : Int) (x1 : Int) (h : (bytesOk x0_0 && okTo (7 : Int) x0_1) = true) : (bytesOk x0_0 && okTo (5 : Int) x0_1 && true && ((bytesOk x0_0 && (okTo (1 : Int) (x0_1 + g166_2 x0_0 x0_1 x0_2) && true) && true || !x1 == (1 : Int)) && true && true && true) && true) = true := by
  obtain ⟨h0, h⟩ := Bool.and_eq_true_iff.1 h
  have h1 := h
  have p0 : (okTo (5 : Int) x0_1) = true := (okTo_le (v := 5) h1 (by decide))
  have p1 : (okTo (1 : Int) (x0_1 + g166_2 x0_0 x0_1 x0_2)) = true := (okTo_add (u := 6) (v := 1) (w := 7) (okTo_le (v := 7) h1 (by decide)) (b166_2 _ _ _) (by decide))
  simp only [h0, p0, p1, Bool.and_true, Bool.true_and, Bool.or_true, Bool.true_or, Bool.or_false, Bool.false_or, Bool.and_self, Bool.cond_self, Bool.not_true, Bool.not_false, Bool.false_and, Bool.and_false, u64_dec, Nat.zero_add, Nat.le_refl, decide_true, eq_self, List.drop_zero, List.take_length, Bool.not_not, bif_tf, bif_ft]
theorem d149 (x0_0 : List Row) (x0_1 : Int) (x0_2 : Int) (x1 : Int) : fnT Q166 [] [] 0 F149 [.one (.ptr 0 0 0), .one (.lit (.int .i64 x1))] [.box [.imm true 1 x0_0, .lit (.int .i64 x0_1), .lit (.int .u64 x0_2)]] = some ((SV.one (T.lit (Value.int IntKind.i64 (g149_0 x0_0 x0_1 x0_2 x1))), [Blk.box [T.imm true (1 : Nat) (r149_1 x0_0 x1), T.lit (Value.int IntKind.i64 (r149_2 x0_0 x0_1 x0_2 x1)), T.lit (Value.int IntKind.u64 (g149_3 x0_0 x0_1 x0_2 x1))]]), bytesOk x0_0 && okTo (5 : Int) x0_1 && true && ((bytesOk x0_0 && (okTo (1 : Int) (x0_1 + g166_2 x0_0 x0_1 x0_2) && true) && true || !x1 == (1 : Int)) && true && true && true) && true) := by kernel_rfl
theorem e149 (x0_0 : List Row) (x0_1 : Int) (x0_2 : Int) (x1 : Int) : fnT Q166 [] [] 0 F149 [.one (.ptr 0 0 0), .one (.lit (.int .i64 x1))] [.box [.imm true 1 x0_0, .lit (.int .i64 x0_1), .lit (.int .u64 x0_2)]] = some ((SV.one (T.lit (Value.int IntKind.i64 (g149_0 x0_0 x0_1 x0_2 x1))), [Blk.box [T.imm true (1 : Nat) x0_0, T.lit (Value.int IntKind.i64 (x0_1 + g149_2 x0_0 x0_1 x0_2 x1)), T.lit (Value.int IntKind.u64 (g149_3 x0_0 x0_1 x0_2 x1))]]), bytesOk x0_0 && okTo (5 : Int) x0_1 && true && ((bytesOk x0_0 && (okTo (1 : Int) (x0_1 + g166_2 x0_0 x0_1 x0_2) && true) && true || !x1 == (1 : Int)) && true && true && true) && true) := by rw [d149, c149_1, c149_2]
def q149 : List SV → List Blk → Option ((SV × List Blk) × Bool)
  | [.one (.ptr 0 0 0), .one (.lit (.int .i64 x1))], [.box [.imm true 1 x0_0, .lit (.int .i64 x0_1), .lit (.int .u64 x0_2)]] => some ((SV.one (T.lit (Value.int IntKind.i64 (g149_0 x0_0 x0_1 x0_2 x1))), [Blk.box [T.imm true (1 : Nat) x0_0, T.lit (Value.int IntKind.i64 (x0_1 + g149_2 x0_0 x0_1 x0_2 x1)), T.lit (Value.int IntKind.u64 (g149_3 x0_0 x0_1 x0_2 x1))]]), bytesOk x0_0 && okTo (7 : Int) x0_1)
  | _, _ => none
theorem t149 (args : List SV) (hp : List Blk) (r : SV × List Blk) (h : q149 args hp = some (r, true)) : R 149 args hp = some r := by
  unfold q149 at h
  split at h
  · rename_i x1 x0_0 x0_1 x0_2; exact R_fn at149 0 (fnT_run Q166_ok (okTrans (e149 x0_0 x0_1 x0_2 x1) (k149 x0_0 x0_1 x0_2 x1) h))
  · simp at h
noncomputable def Q149 : Qt := qcons 149 q149 Q166
theorem Q149_ok : QOk R Q149 := qcons_ok t149 Q166_ok
/-! spec.DrawRotateBack -/
def g80_0 (x0 : List Row) : Int := IntKind.wrap IntKind.i64 ((3 : Int) + g141_0 x0 (1 : Int) (g148_2 x0 (0 : Int) (0 : Int)) (6 : Int))
def g80_1 (x0 : List Row) : Int := g148_0 x0 (0 : Int) (0 : Int)
def g80_2 (x0 : List Row) : Int := g141_0 x0 (2 : Int) (g141_3 x0 (1 : Int) (g148_2 x0 (0 : Int) (0 : Int)) (6 : Int)) (33 : Int)
def g80_3 (x0 : List Row) : Int := g149_0 x0 (3 : Int) (g141_3 x0 (2 : Int) (g141_3 x0 (1 : Int) (g148_2 x0 (0 : Int) (0 : Int)) (6 : Int)) (33 : Int)) (g148_0 x0 (0 : Int) (0 : Int))
def g80_4 (x0 : List Row) : Int := g133_0 x0 ((3 : Int) + g149_2 x0 (3 : Int) (g141_3 x0 (2 : Int) (g141_3 x0 (1 : Int) (g148_2 x0 (0 : Int) (0 : Int)) (6 : Int)) (33 : Int)) (g148_0 x0 (0 : Int) (0 : Int))) (g149_3 x0 (3 : Int) (g141_3 x0 (2 : Int) (g141_3 x0 (1 : Int) (g148_2 x0 (0 : Int) (0 : Int)) (6 : Int)) (33 : Int)) (g148_0 x0 (0 : Int) (0 : Int))) (ri [(0 : Int), (1 : Int), (2 : Int), (3 : Int), (8 : Int), (9 : Int), (17 : Int), (63 : Int), (64 : Int)])
theorem k80 (x0 : List Row) (h : (bytesOk x0) = true) : (bytesOk x0 && true && true && (bytesOk x0 && true && (bytesOk x0 && true && (bytesOk x0 && true && (bytesOk x0 && (okTo (2 : Int) ((3 : Int) + g149_2 x0 (3 : Int) (g141_3 x0 (2 : Int) (g141_3 x0 (1 : Int) (g148_2 x0 (0 : Int) (0 : Int)) (6 : Int)) (33 : Int)) (g148_0 x0 (0 : Int) (0 : Int))) && true) && true))) && true) && true) = true := by
  have h0 := h
  have p0 : (okTo (2 : Int) ((3 : Int) + g149_2 x0 (3 : Int) (g141_3 x0 (2 : Int) (g141_3 x0 (1 : Int) (g148_2 x0 (0 : Int) (0 : Int)) (6 : Int)) (33 : Int)) (g148_0 x0 (0 : Int) (0 : Int)))) = true := (okTo_bd (u := 10) (bd_add (u := 3) (v := 7) (w := 10) ⟨by decide, by decide⟩ (b149_2 _ _ _ _) (by decide)) (by decide))
  simp only [h0, p0, Bool.and_true, Bool.true_and, Bool.or_true, Bool.true_or, Bool.or_false, Bool.false_or, Bool.and_self, Bool.cond_self, Bool.not_true, Bool.not_false, Bool.false_and, Bool.and_false, u64_dec, Nat.zero_add, Nat.le_refl, decide_true, eq_self, List.drop_zero, List.take_length, Bool.not_not, bif_tf, bif_ft]
theorem e80 (x0 : List Row) : fnT Q149 [] [] 0 F80 [.one (.imm true 1 x0)] [] = some ((SV.tup [SV.one (T.lit (Value.int IntKind.i64 (g80_0 x0))), SV.one (T.lit (Value.int IntKind.i64 (g80_1 x0))), SV.one (T.lit (Value.int IntKind.i64 (g80_2 x0))), SV.one (T.lit (Value.int IntKind.i64 (g80_3 x0))), SV.one (T.lit (Value.int IntKind.i64 (g80_4 x0)))], []), bytesOk x0 && true && true && (bytesOk x0 && true && (bytesOk x0 && true && (bytesOk x0 && true && (bytesOk x0 && (okTo (2 : Int) ((3 : Int) + g149_2 x0 (3 : Int) (g141_3 x0 (2 : Int) (g141_3 x0 (1 : Int) (g148_2 x0 (0 : Int) (0 : Int)) (6 : Int)) (33 : Int)) (g148_0 x0 (0 : Int) (0 : Int))) && true) && true))) && true) && true) := by kernel_rfl
def q80 : List SV → List Blk → Option ((SV × List Blk) × Bool)
  | [.one (.imm true 1 x0)], [] => some ((SV.tup [SV.one (T.lit (Value.int IntKind.i64 (g80_0 x0))), SV.one (T.lit (Value.int IntKind.i64 (g80_1 x0))), SV.one (T.lit (Value.int IntKind.i64 (g80_2 x0))), SV.one (T.lit (Value.int IntKind.i64 (g80_3 x0))), SV.one (T.lit (Value.int IntKind.i64 (g80_4 x0)))], []), bytesOk x0)
  | _, _ => none
theorem t80 (args : List SV) (hp : List Blk) (r : SV × List Blk) (h : q80 args hp = some (r, true)) : R 80 args hp = some r := by
  unfold q80 at h
  split at h
  · rename_i x0; exact R_fn at80 0 (fnT_run Q149_ok (okTrans (e80 x0) (k80 x0) h))
  · simp at h
noncomputable def Q80 : Qt := qcons 80 q80 Q149
theorem Q80_ok : QOk R Q80 := qcons_ok t80 Q149_ok
/-! impl.RotateBack -/
def g81_0 (x0 : Int) (x1 : Int) (x2 : Int) (x3 : Int) (x4 : Int) : Int := bif bif bif !g172_0 x0 x1 x2 x3 then true else decide (x0 < (4 : Int)) then true else !g142_0 x4 (0 : Int) (63 : Int) then (0 : Int) else g173_0 (IntKind.wrap IntKind.i64 (↑(BitVec.toNat (BitVec.ofInt (64 : Nat) x0 ^^^ BitVec.ofInt (64 : Nat) (1 : Int))) : Int)) x1 (g173_1 x0 x1 x2 x3 x4) (g173_0 x0 x1 x2 x3 x4) x4
def r81_1 (x0 : Int) (x1 : Int) (x2 : Int) (x3 : Int) (x4 : Int) : Bool := bif bif bif !g172_0 x0 x1 x2 x3 then true else decide (x0 < (4 : Int)) then true else !g142_0 x4 (0 : Int) (63 : Int) then false else true
def g81_1 (x0 : Int) (x1 : Int) (x2 : Int) (x3 : Int) (x4 : Int) : Bool := !bif bif !g172_0 x0 x1 x2 x3 then true else decide (x0 < (4 : Int)) then true else !g142_0 x4 (0 : Int) (63 : Int)
theorem c81_1 (x0 : Int) (x1 : Int) (x2 : Int) (x3 : Int) (x4 : Int) : r81_1 x0 x1 x2 x3 x4 = g81_1 x0 x1 x2 x3 x4 := by simp only [r81_1, g81_1, Bool.cond_self, bif_tf, bif_ft, Bool.not_not, List.drop_zero, List.take_length]
theorem d81 (x0 : Int) (x1 : Int) (x2 : Int) (x3 : Int) (x4 : Int) : fnT Q80 [] [] 0 F81 [.one (.lit (.int .i64 x0)), .one (.lit (.int .i64 x1)), .one (.lit (.int .i64 x2)), .one (.lit (.int .i64 x3)), .one (.lit (.int .i64 x4))] [] = some ((SV.tup [SV.one (T.lit (Value.int IntKind.i64 (g81_0 x0 x1 x2 x3 x4))), SV.one (T.lit (Value.bool (r81_1 x0 x1 x2 x3 x4)))], []), ((decide ((0 : Int) ≤ IntKind.wrap IntKind.i64 ((8 : Int) * x1)) || !x4 == (0 : Int)) && (Option.isSome (L173_0 (70 : Nat) x0 x1 x2 x3 x4 (0 : Int)) || x4 == (0 : Int)) && true && ((decide ((0 : Int) ≤ IntKind.wrap IntKind.i64 ((8 : Int) * x1)) || !x4 == (0 : Int)) && (Option.isSome (L173_0 (70 : Nat) (IntKind.wrap IntKind.i64 (↑(BitVec.toNat (BitVec.ofInt (64 : Nat) x0 ^^^ BitVec.ofInt (64 : Nat) (1 : Int))) : Int)) x1 (g173_1 x0 x1 x2 x3 x4) (g173_0 x0 x1 x2 x3 x4) x4 (0 : Int)) || x4 == (0 : Int)) && true && true) || bif bif !g172_0 x0 x1 x2 x3 then true else decide (x0 < (4 : Int)) then true else !g142_0 x4 (0 : Int) (63 : Int)) && true) := by kernel_rfl
theorem e81 (x0 : Int) (x1 : Int) (x2 : Int) (x3 : Int) (x4 : Int) : fnT Q80 [] [] 0 F81 [.one (.lit (.int .i64 x0)), .one (.lit (.int .i64 x1)), .one (.lit (.int .i64 x2)), .one (.lit (.int .i64 x3)), .one (.lit (.int .i64 x4))] [] = some ((SV.tup [SV.one (T.lit (Value.int IntKind.i64 (g81_0 x0 x1 x2 x3 x4))), SV.one (T.lit (Value.bool (g81_1 x0 x1 x2 x3 x4)))], []), ((decide ((0 : Int) ≤ IntKind.wrap IntKind.i64 ((8 : Int) * x1)) || !x4 == (0 : Int)) && (Option.isSome (L173_0 (70 : Nat) x0 x1 x2 x3 x4 (0 : Int)) || x4 == (0 : Int)) && true && ((decide ((0 : Int) ≤ IntKind.wrap IntKind.i64 ((8 : Int) * x1)) || !x4 == (0 : Int)) && (Option.isSome (L173_0 (70 : Nat) (IntKind.wrap IntKind.i64 (↑(BitVec.toNat (BitVec.ofInt (64 : Nat) x0 ^^^ BitVec.ofInt (64 : Nat) (1 : Int))) : Int)) x1 (g173_1 x0 x1 x2 x3 x4) (g173_0 x0 x1 x2 x3 x4) x4 (0 : Int)) || x4 == (0 : Int)) && true && true) || bif bif !g172_0 x0 x1 x2 x3 then true else decide (x0 < (4 : Int)) then true else !g142_0 x4 (0 : Int) (63 : Int)) && true) := by rw [d81, c81_1]
def q81 : List SV → List Blk → Option ((SV × List Blk) × Bool)
  | [.one (.lit (.int .i64 x0)), .one (.lit (.int .i64 x1)), .one (.lit (.int .i64 x2)), .one (.lit (.int .i64 x3)), .one (.lit (.int .i64 x4))], [] => some ((SV.tup [SV.one (T.lit (Value.int IntKind.i64 (g81_0 x0 x1 x2 x3 x4))), SV.one (T.lit (Value.bool (g81_1 x0 x1 x2 x3 x4)))], []), ((decide ((0 : Int) ≤ IntKind.wrap IntKind.i64 ((8 : Int) * x1)) || !x4 == (0 : Int)) && (Option.isSome (L173_0 (70 : Nat) x0 x1 x2 x3 x4 (0 : Int)) || x4 == (0 : Int)) && true && ((decide ((0 : Int) ≤ IntKind.wrap IntKind.i64 ((8 : Int) * x1)) || !x4 == (0 : Int)) && (Option.isSome (L173_0 (70 : Nat) (IntKind.wrap IntKind.i64 (↑(BitVec.toNat (BitVec.ofInt (64 : Nat) x0 ^^^ BitVec.ofInt (64 : Nat) (1 : Int))) : Int)) x1 (g173_1 x0 x1 x2 x3 x4) (g173_0 x0 x1 x2 x3 x4) x4 (0 : Int)) || x4 == (0 : Int)) && true && true) || bif bif !g172_0 x0 x1 x2 x3 then true else decide (x0 < (4 : Int)) then true else !g142_0 x4 (0 : Int) (63 : Int)) && true)
  | _, _ => none
theorem t81 (args : List SV) (hp : List Blk) (r : SV × List Blk) (h : q81 args hp = some (r, true)) : R 81 args hp = some r := by
  unfold q81 at h
  split at h
  · rename_i x0 x1 x2 x3 x4; exact R_fn at81 0 (fnT_run Q80_ok ((e81 x0 x1 x2 x3 x4).trans h))
  · simp at h
noncomputable def Q81 : Qt := qcons 81 q81 Q80
theorem Q81_ok : QOk R Q81 := qcons_ok t81 Q80_ok
/-! spec.l1In -/
def g144_0 (x0 : Int) (x1 : Int) (x2 : Int) : Bool := bif decide (x0 ≥ x1) then decide (x0 ≤ x2) else false
theorem e144 (x0 : Int) (x1 : Int) (x2 : Int) : fnT Q81 [] [] 0 F144 [.one (.lit (.int .i64 x0)), .one (.lit (.int .i64 x1)), .one (.lit (.int .i64 x2))] [] = some ((SV.one (T.lit (Value.bool (g144_0 x0 x1 x2))), []), true) := by kernel_rfl
def q144 : List SV → List Blk → Option ((SV × List Blk) × Bool)
  | [.one (.lit (.int .i64 x0)), .one (.lit (.int .i64 x1)), .one (.lit (.int .i64 x2))], [] => some ((SV.one (T.lit (Value.bool (g144_0 x0 x1 x2))), []), true)
  | _, _ => none
theorem t144 (args : List SV) (hp : List Blk) (r : SV × List Blk) (h : q144 args hp = some (r, true)) : R 144 args hp = some r := by
  unfold q144 at h
  split at h
  · rename_i x0 x1 x2; exact R_fn at144 0 (fnT_run Q81_ok ((e144 x0 x1 x2).trans h))
  · simp at h
noncomputable def Q144 : Qt := qcons 144 q144 Q81
theorem Q144_ok : QOk R Q144 := qcons_ok t144 Q81_ok
/-! spec.l3Kind -/
def g179_0 (x0 : Int) : Bool := g144_0 x0 (0 : Int) (7 : Int)
theorem e179 (x0 : Int) : fnT Q144 [] [] 0 F179 [.one (.lit (.int .i64 x0))] [] = some ((SV.one (T.lit (Value.bool (g179_0 x0))), []), true) := by kernel_rfl
def q179 : List SV → List Blk → Option ((SV × List Blk) × Bool)
  | [.one (.lit (.int .i64 x0))], [] => some ((SV.one (T.lit (Value.bool (g179_0 x0))), []), true)
  | _, _ => none
theorem t179 (args : List SV) (hp : List Blk) (r : SV × List Blk) (h : q179 args hp = some (r, true)) : R 179 args hp = some r := by
  unfold q179 at h
  split at h
  · rename_i x0; exact R_fn at179 0 (fnT_run Q144_ok ((e179 x0).trans h))
  · simp at h
noncomputable def Q179 : Qt := qcons 179 q179 Q144
theorem Q179_ok : QOk R Q179 := qcons_ok t179 Q144_ok
/-! spec.l1Size -/
def g201_0 (x0 : Int) : Bool := bif x0 == (1 : Int) then true else x0 == (2 : Int)
theorem e201 (x0 : Int) : fnT Q179 [] [] 0 F201 [.one (.lit (.int .i64 x0))] [] = some ((SV.one (T.lit (Value.bool (g201_0 x0))), []), true) := by kernel_rfl
def q201 : List SV → List Blk → Option ((SV × List Blk) × Bool)
  | [.one (.lit (.int .i64 x0))], [] => some ((SV.one (T.lit (Value.bool (g201_0 x0))), []), true)
  | _, _ => none
theorem t201 (args : List SV) (hp : List Blk) (r : SV × List Blk) (h : q201 args hp = some (r, true)) : R 201 args hp = some r := by
  unfold q201 at h
  split at h
  · rename_i x0; exact R_fn at201 0 (fnT_run Q179_ok ((e201 x0).trans h))
  · simp at h
noncomputable def Q201 : Qt := qcons 201 q201 Q179
theorem Q201_ok : QOk R Q201 := qcons_ok t201 Q179_ok
/-! spec.l1Top -/
def g220_0 (x0 : Int) : Int := IntKind.wrap IntKind.i64 ((1 : Int) * (2 : Int) ^ min (Int.toNat (IntKind.wrap IntKind.u64 (IntKind.wrap IntKind.i64 ((8 : Int) * x0)))) (64 : Nat))
theorem k220 (x0 : Int) (h : (true) = true) : (decide ((0 : Int) ≤ IntKind.wrap IntKind.u64 (IntKind.wrap IntKind.i64 ((8 : Int) * x0))) && true && true && true) = true := by
  simp only [Bool.and_true, Bool.true_and, Bool.or_true, Bool.true_or, Bool.or_false, Bool.false_or, Bool.and_self, Bool.cond_self, Bool.not_true, Bool.not_false, Bool.false_and, Bool.and_false, u64_dec, Nat.zero_add, Nat.le_refl, decide_true, eq_self, List.drop_zero, List.take_length, Bool.not_not, bif_tf, bif_ft]
theorem e220 (x0 : Int) : fnT Q201 [] [] 0 F220 [.one (.lit (.int .i64 x0))] [] = some ((SV.one (T.lit (Value.int IntKind.i64 (g220_0 x0))), []), decide ((0 : Int) ≤ IntKind.wrap IntKind.u64 (IntKind.wrap IntKind.i64 ((8 : Int) * x0))) && true && true && true) := by kernel_rfl
def q220 : List SV → List Blk → Option ((SV × List Blk) × Bool)
  | [.one (.lit (.int .i64 x0))], [] => some ((SV.one (T.lit (Value.int IntKind.i64 (g220_0 x0))), []), true)
  | _, _ => none
theorem t220 (args : List SV) (hp : List Blk) (r : SV × List Blk) (h : q220 args hp = some (r, true)) : R 220 args hp = some r := by
  unfold q220 at h
  split at h
  · rename_i x0; exact R_fn at220 0 (fnT_run Q201_ok (okTrans (e220 x0) (k220 x0) h))
  · simp at h
noncomputable def Q220 : Qt := qcons 220 q220 Q201
theorem Q220_ok : QOk R Q220 := qcons_ok t220 Q201_ok
/-! spec.l1Value -/
def g181_0 (x0 : Int) (x1 : Int) : Bool := bif g201_0 x0 then g144_0 x1 (0 : Int) (IntKind.wrap IntKind.i64 (g220_0 x0 - (1 : Int))) else false
theorem e181 (x0 : Int) (x1 : Int) : fnT Q220 [] [] 0 F181 [.one (.lit (.int .i64 x0)), .one (.lit (.int .i64 x1))] [] = some ((SV.one (T.lit (Value.bool (g181_0 x0 x1))), []), true) := by kernel_rfl
def q181 : List SV → List Blk → Option ((SV × List Blk) × Bool)
  | [.one (.lit (.int .i64 x0)), .one (.lit (.int .i64 x1))], [] => some ((SV.one (T.lit (Value.bool (g181_0 x0 x1))), []), true)
  | _, _ => none
theorem t181 (args : List SV) (hp : List Blk) (r : SV × List Blk) (h : q181 args hp = some (r, true)) : R 181 args hp = some r := by
  unfold q181 at h
  split at h
  · rename_i x0 x1; exact R_fn at181 0 (fnT_run Q220_ok ((e181 x0 x1).trans h))
  · simp at h
noncomputable def Q181 : Qt := qcons 181 q181 Q220
theorem Q181_ok : QOk R Q181 := qcons_ok t181 Q220_ok
/-! spec.l1Flags -/
def g185_0 (x0 : Int) : Bool := g144_0 x0 (0 : Int) (31 : Int)
theorem e185 (x0 : Int) : fnT Q181 [] [] 0 F185 [.one (.lit (.int .i64 x0))] [] = some ((SV.one (T.lit (Value.bool (g185_0 x0))), []), true) := by kernel_rfl
def q185 : List SV → List Blk → Option ((SV × List Blk) × Bool)
  | [.one (.lit (.int .i64 x0))], [] => some ((SV.one (T.lit (Value.bool (g185_0 x0))), []), true)
  | _, _ => none
theorem t185 (args : List SV) (hp : List Blk) (r : SV × List Blk) (h : q185 args hp = some (r, true)) : R 185 args hp = some r := by
  unfold q185 at h
  split at h
  · rename_i x0; exact R_fn at185 0 (fnT_run Q181_ok ((e185 x0).trans h))
  · simp at h
noncomputable def Q185 : Qt := qcons 185 q185 Q181
theorem Q185_ok : QOk R Q185 := qcons_ok t185 Q181_ok
/-! spec.l3Good -/
def g174_0 (x0 : Int) (x1 : Int) (x2 : Int) (x3 : Int) : Bool := bif bif g179_0 x0 then g181_0 x1 x3 else false then g185_0 x2 else false
theorem e174 (x0 : Int) (x1 : Int) (x2 : Int) (x3 : Int) : fnT Q185 [] [] 0 F174 [.one (.lit (.int .i64 x0)), .one (.lit (.int .i64 x1)), .one (.lit (.int .i64 x2)), .one (.lit (.int .i64 x3))] [] = some ((SV.one (T.lit (Value.bool (g174_0 x0 x1 x2 x3))), []), true) := by kernel_rfl
def q174 : List SV → List Blk → Option ((SV × List Blk) × Bool)
  | [.one (.lit (.int .i64 x0)), .one (.lit (.int .i64 x1)), .one (.lit (.int .i64 x2)), .one (.lit (.int .i64 x3))], [] => some ((SV.one (T.lit (Value.bool (g174_0 x0 x1 x2 x3))), []), true)
  | _, _ => none
theorem t174 (args : List SV) (hp : List Blk) (r : SV × List Blk) (h : q174 args hp = some (r, true)) : R 174 args hp = some r := by
  unfold q174 at h
  split at h
  · rename_i x0 x1 x2 x3; exact R_fn at174 0 (fnT_run Q185_ok ((e174 x0 x1 x2 x3).trans h))
  · simp at h
noncomputable def Q174 : Qt := qcons 174 q174 Q185
theorem Q174_ok : QOk R Q174 := qcons_ok t174 Q185_ok
/-! spec.l1Flag -/
def g168_0 (x0 : Bool) (x1 : Int) : Int := bif x0 then x1 else (0 : Int)
theorem e168 (x0 : Bool) (x1 : Int) : fnT Q174 [] [] 0 F168 [.one (.lit (.bool x0)), .one (.lit (.int .i64 x1))] [] = some ((SV.one (T.lit (Value.int IntKind.i64 (g168_0 x0 x1))), []), true) := by kernel_rfl
def q168 : List SV → List Blk → Option ((SV × List Blk) × Bool)
  | [.one (.lit (.bool x0)), .one (.lit (.int .i64 x1))], [] => some ((SV.one (T.lit (Value.int IntKind.i64 (g168_0 x0 x1))), []), true)
  | _, _ => none
theorem t168 (args : List SV) (hp : List Blk) (r : SV × List Blk) (h : q168 args hp = some (r, true)) : R 168 args hp = some r := by
  unfold q168 at h
  split at h
  · rename_i x0 x1; exact R_fn at168 0 (fnT_run Q174_ok ((e168 x0 x1).trans h))
  · simp at h
noncomputable def Q168 : Qt := qcons 168 q168 Q174
theorem Q168_ok : QOk R Q168 := qcons_ok t168 Q174_ok
/-! spec.l3Left -/
def g180_0 (x0 : Int) : Bool := IntKind.wrap IntKind.i64 (↑(BitVec.toNat (BitVec.ofInt (64 : Nat) x0 &&& BitVec.ofInt (64 : Nat) (1 : Int))) : Int) == (0 : Int)
theorem e180 (x0 : Int) : fnT Q168 [] [] 0 F180 [.one (.lit (.int .i64 x0))] [] = some ((SV.one (T.lit (Value.bool (g180_0 x0))), []), true) := by kernel_rfl
def q180 : List SV → List Blk → Option ((SV × List Blk) × Bool)
  | [.one (.lit (.int .i64 x0))], [] => some ((SV.one (T.lit (Value.bool (g180_0 x0))), []), true)
  | _, _ => none
theorem t180 (args : List SV) (hp : List Blk) (r : SV × List Blk) (h : q180 args hp = some (r, true)) : R 180 args hp = some r := by
  unfold q180 at h
  split at h
  · rename_i x0; exact R_fn at180 0 (fnT_run Q168_ok ((e180 x0).trans h))
  · simp at h
noncomputable def Q180 : Qt := qcons 180 q180 Q168
theorem Q180_ok : QOk R Q180 := qcons_ok t180 Q168_ok
/-! spec.l1Zn -/
def g221_0 (x0 : Int) (x1 : Int) : Int := IntKind.wrap IntKind.i64 (↑(BitVec.toNat (BitVec.ofInt (64 : Nat) (g168_0 (x1 == (0 : Int)) (4 : Int)) ||| BitVec.ofInt (64 : Nat) (g168_0 (decide (x1 ≥ IntKind.wrap IntKind.i64 (Int.tdiv (g220_0 x0) (2 : Int)))) (8 : Int)))) : Int)
theorem e221 (x0 : Int) (x1 : Int) : fnT Q180 [] [] 0 F221 [.one (.lit (.int .i64 x0)), .one (.lit (.int .i64 x1))] [] = some ((SV.one (T.lit (Value.int IntKind.i64 (g221_0 x0 x1))), []), true) := by kernel_rfl
def q221 : List SV → List Blk → Option ((SV × List Blk) × Bool)
  | [.one (.lit (.int .i64 x0)), .one (.lit (.int .i64 x1))], [] => some ((SV.one (T.lit (Value.int IntKind.i64 (g221_0 x0 x1))), []), true)
  | _, _ => none
theorem t221 (args : List SV) (hp : List Blk) (r : SV × List Blk) (h : q221 args hp = some (r, true)) : R 221 args hp = some r := by
  unfold q221 at h
  split at h
  · rename_i x0 x1; exact R_fn at221 0 (fnT_run Q180_ok ((e221 x0 x1).trans h))
  · simp at h
noncomputable def Q221 : Qt := qcons 221 q221 Q180
theorem Q221_ok : QOk R Q221 := qcons_ok t221 Q180_ok
/-! spec.l3Once -/
def r177_0 (x0 : Int) (x1 : Int) (x2 : Int) (x3 : Int) : Int := bif bif x0 == (4 : Int) then true else x0 == (5 : Int) then bif g180_0 x0 then IntKind.wrap IntKind.i64 (↑(BitVec.toNat (BitVec.ofInt (64 : Nat) (IntKind.wrap IntKind.i64 (↑(BitVec.toNat (BitVec.ofInt (64 : Nat) (IntKind.wrap IntKind.i64 (x3 * (2 : Int))) &&& BitVec.ofInt (64 : Nat) (IntKind.wrap IntKind.i64 (IntKind.wrap IntKind.i64 ((2 : Int) * IntKind.wrap IntKind.i64 (Int.tdiv (g220_0 x1) (2 : Int))) - (1 : Int))))) : Int)) ||| BitVec.ofInt (64 : Nat) (bif x0 == (1 : Int) then g168_0 (decide (x3 ≥ IntKind.wrap IntKind.i64 (Int.tdiv (g220_0 x1) (2 : Int)))) (1 : Int) else bif bif x0 == (4 : Int) then x0 == (4 : Int) else x0 == (5 : Int) then bif g180_0 x0 then g168_0 (decide (x3 ≥ IntKind.wrap IntKind.i64 (Int.tdiv (g220_0 x1) (2 : Int)))) (1 : Int) else IntKind.wrap IntKind.i64 (↑(BitVec.toNat (BitVec.ofInt (64 : Nat) x3 &&& BitVec.ofInt (64 : Nat) (1 : Int))) : Int) else bif bif x0 == (6 : Int) then x0 == (6 : Int) else x0 == (7 : Int) then g168_0 (IntKind.wrap IntKind.i64 (↑(BitVec.toNat (BitVec.ofInt (64 : Nat) x2 &&& BitVec.ofInt (64 : Nat) (16 : Int))) : Int) != (0 : Int)) (1 : Int) else (0 : Int)))) : Int) else IntKind.wrap IntKind.i64 (↑(BitVec.toNat (BitVec.ofInt (64 : Nat) (Int.fdiv x3 (2 : Int)) ||| BitVec.ofInt (64 : Nat) (IntKind.wrap IntKind.i64 ((bif x0 == (1 : Int) then g168_0 (decide (x3 ≥ IntKind.wrap IntKind.i64 (Int.tdiv (g220_0 x1) (2 : Int)))) (1 : Int) else bif bif x0 == (4 : Int) then x0 == (4 : Int) else x0 == (5 : Int) then bif g180_0 x0 then g168_0 (decide (x3 ≥ IntKind.wrap IntKind.i64 (Int.tdiv (g220_0 x1) (2 : Int)))) (1 : Int) else IntKind.wrap IntKind.i64 (↑(BitVec.toNat (BitVec.ofInt (64 : Nat) x3 &&& BitVec.ofInt (64 : Nat) (1 : Int))) : Int) else bif bif x0 == (6 : Int) then x0 == (6 : Int) else x0 == (7 : Int) then g168_0 (IntKind.wrap IntKind.i64 (↑(BitVec.toNat (BitVec.ofInt (64 : Nat) x2 &&& BitVec.ofInt (64 : Nat) (16 : Int))) : Int) != (0 : Int)) (1 : Int) else (0 : Int)) * IntKind.wrap IntKind.i64 (Int.tdiv (g220_0 x1) (2 : Int)))))) : Int) else bif g180_0 x0 then IntKind.wrap IntKind.i64 (↑(BitVec.toNat (BitVec.ofInt (64 : Nat) (IntKind.wrap IntKind.i64 (↑(BitVec.toNat (BitVec.ofInt (64 : Nat) (IntKind.wrap IntKind.i64 (x3 * (2 : Int))) &&& BitVec.ofInt (64 : Nat) (IntKind.wrap IntKind.i64 (IntKind.wrap IntKind.i64 ((2 : Int) * IntKind.wrap IntKind.i64 (Int.tdiv (g220_0 x1) (2 : Int))) - (1 : Int))))) : Int)) ||| BitVec.ofInt (64 : Nat) (bif x0 == (1 : Int) then g168_0 (decide (x3 ≥ IntKind.wrap IntKind.i64 (Int.tdiv (g220_0 x1) (2 : Int)))) (1 : Int) else bif bif x0 == (4 : Int) then x0 == (4 : Int) else x0 == (5 : Int) then bif g180_0 x0 then g168_0 (decide (x3 ≥ IntKind.wrap IntKind.i64 (Int.tdiv (g220_0 x1) (2 : Int)))) (1 : Int) else IntKind.wrap IntKind.i64 (↑(BitVec.toNat (BitVec.ofInt (64 : Nat) x3 &&& BitVec.ofInt (64 : Nat) (1 : Int))) : Int) else bif bif x0 == (6 : Int) then x0 == (6 : Int) else x0 == (7 : Int) then g168_0 (IntKind.wrap IntKind.i64 (↑(BitVec.toNat (BitVec.ofInt (64 : Nat) x2 &&& BitVec.ofInt (64 : Nat) (16 : Int))) : Int) != (0 : Int)) (1 : Int) else (0 : Int)))) : Int) else IntKind.wrap IntKind.i64 (↑(BitVec.toNat (BitVec.ofInt (64 : Nat) (Int.fdiv x3 (2 : Int)) ||| BitVec.ofInt (64 : Nat) (IntKind.wrap IntKind.i64 ((bif x0 == (1 : Int) then g168_0 (decide (x3 ≥ IntKind.wrap IntKind.i64 (Int.tdiv (g220_0 x1) (2 : Int)))) (1 : Int) else bif bif x0 == (4 : Int) then x0 == (4 : Int) else x0 == (5 : Int) then bif g180_0 x0 then g168_0 (decide (x3 ≥ IntKind.wrap IntKind.i64 (Int.tdiv (g220_0 x1) (2 : Int)))) (1 : Int) else IntKind.wrap IntKind.i64 (↑(BitVec.toNat (BitVec.ofInt (64 : Nat) x3 &&& BitVec.ofInt (64 : Nat) (1 : Int))) : Int) else bif bif x0 == (6 : Int) then x0 == (6 : Int) else x0 == (7 : Int) then g168_0 (IntKind.wrap IntKind.i64 (↑(BitVec.toNat (BitVec.ofInt (64 : Nat) x2 &&& BitVec.ofInt (64 : Nat) (16 : Int))) : Int) != (0 : Int)) (1 : Int) else (0 : Int)) * IntKind.wrap IntKind.i64 (Int.tdiv (g220_0 x1) (2 : Int)))))) : Int)
def g177_0 (x0 : Int) (x1 : Int) (x2 : Int) (x3 : Int) : Int := bif g180_0 x0 then IntKind.wrap IntKind.i64 (↑(BitVec.toNat (BitVec.ofInt (64 : Nat) (IntKind.wrap IntKind.i64 (↑(BitVec.toNat (BitVec.ofInt (64 : Nat) (IntKind.wrap IntKind.i64 (x3 * (2 : Int))) &&& BitVec.ofInt (64 : Nat) (IntKind.wrap IntKind.i64 (IntKind.wrap IntKind.i64 ((2 : Int) * IntKind.wrap IntKind.i64 (Int.tdiv (g220_0 x1) (2 : Int))) - (1 : Int))))) : Int)) ||| BitVec.ofInt (64 : Nat) (bif x0 == (1 : Int) then g168_0 (decide (x3 ≥ IntKind.wrap IntKind.i64 (Int.tdiv (g220_0 x1) (2 : Int)))) (1 : Int) else bif bif x0 == (4 : Int) then x0 == (4 : Int) else x0 == (5 : Int) then bif g180_0 x0 then g168_0 (decide (x3 ≥ IntKind.wrap IntKind.i64 (Int.tdiv (g220_0 x1) (2 : Int)))) (1 : Int) else IntKind.wrap IntKind.i64 (↑(BitVec.toNat (BitVec.ofInt (64 : Nat) x3 &&& BitVec.ofInt (64 : Nat) (1 : Int))) : Int) else bif bif x0 == (6 : Int) then x0 == (6 : Int) else x0 == (7 : Int) then g168_0 (IntKind.wrap IntKind.i64 (↑(BitVec.toNat (BitVec.ofInt (64 : Nat) x2 &&& BitVec.ofInt (64 : Nat) (16 : Int))) : Int) != (0 : Int)) (1 : Int) else (0 : Int)))) : Int) else IntKind.wrap IntKind.i64 (↑(BitVec.toNat (BitVec.ofInt (64 : Nat) (Int.fdiv x3 (2 : Int)) ||| BitVec.ofInt (64 : Nat) (IntKind.wrap IntKind.i64 ((bif x0 == (1 : Int) then g168_0 (decide (x3 ≥ IntKind.wrap IntKind.i64 (Int.tdiv (g220_0 x1) (2 : Int)))) (1 : Int) else bif bif x0 == (4 : Int) then x0 == (4 : Int) else x0 == (5 : Int) then bif g180_0 x0 then g168_0 (decide (x3 ≥ IntKind.wrap IntKind.i64 (Int.tdiv (g220_0 x1) (2 : Int)))) (1 : Int) else IntKind.wrap IntKind.i64 (↑(BitVec.toNat (BitVec.ofInt (64 : Nat) x3 &&& BitVec.ofInt (64 : Nat) (1 : Int))) : Int) else bif bif x0 == (6 : Int) then x0 == (6 : Int) else x0 == (7 : Int) then g168_0 (IntKind.wrap IntKind.i64 (↑(BitVec.toNat (BitVec.ofInt (64 : Nat) x2 &&& BitVec.ofInt (64 : Nat) (16 : Int))) : Int) != (0 : Int)) (1 : Int) else (0 : Int)) * IntKind.wrap IntKind.i64 (Int.tdiv (g220_0 x1) (2 : Int)))))) : Int)
theorem c177_0 (x0 : Int) (x1 : Int) (x2 : Int) (x3 : Int) : r177_0 x0 x1 x2 x3 = g177_0 x0 x1 x2 x3 := by simp only [r177_0, g177_0, Bool.cond_self, bif_tf, bif_ft, Bool.not_not, List.drop_zero, List.take_length]
def g177_1 (x0 : Int) (x1 : Int) (x2 : Int) (x3 : Int) : Int := bif bif x0 == (4 : Int) then true else x0 == (5 : Int) then IntKind.wrap IntKind.i64 (↑(BitVec.toNat (BitVec.ofInt (64 : Nat) (IntKind.wrap IntKind.i64 (↑(BitVec.toNat (BitVec.ofInt (64 : Nat) (IntKind.wrap IntKind.i64 (↑(BitVec.toNat (BitVec.ofInt (64 : Nat) (bif g180_0 x0 then g168_0 (decide (x3 ≥ IntKind.wrap IntKind.i64 (Int.tdiv (g220_0 x1) (2 : Int)))) (1 : Int) else IntKind.wrap IntKind.i64 (↑(BitVec.toNat (BitVec.ofInt (64 : Nat) x3 &&& BitVec.ofInt (64 : Nat) (1 : Int))) : Int)) ||| BitVec.ofInt (64 : Nat) (g221_0 x1 (bif g180_0 x0 then IntKind.wrap IntKind.i64 (↑(BitVec.toNat (BitVec.ofInt (64 : Nat) (IntKind.wrap IntKind.i64 (↑(BitVec.toNat (BitVec.ofInt (64 : Nat) (IntKind.wrap IntKind.i64 (x3 * (2 : Int))) &&& BitVec.ofInt (64 : Nat) (IntKind.wrap IntKind.i64 (IntKind.wrap IntKind.i64 ((2 : Int) * IntKind.wrap IntKind.i64 (Int.tdiv (g220_0 x1) (2 : Int))) - (1 : Int))))) : Int)) ||| BitVec.ofInt (64 : Nat) (bif x0 == (1 : Int) then g168_0 (decide (x3 ≥ IntKind.wrap IntKind.i64 (Int.tdiv (g220_0 x1) (2 : Int)))) (1 : Int) else bif bif x0 == (4 : Int) then x0 == (4 : Int) else x0 == (5 : Int) then bif g180_0 x0 then g168_0 (decide (x3 ≥ IntKind.wrap IntKind.i64 (Int.tdiv (g220_0 x1) (2 : Int)))) (1 : Int) else IntKind.wrap IntKind.i64 (↑(BitVec.toNat (BitVec.ofInt (64 : Nat) x3 &&& BitVec.ofInt (64 : Nat) (1 : Int))) : Int) else bif bif x0 == (6 : Int) then x0 == (6 : Int) else x0 == (7 : Int) then g168_0 (IntKind.wrap IntKind.i64 (↑(BitVec.toNat (BitVec.ofInt (64 : Nat) x2 &&& BitVec.ofInt (64 : Nat) (16 : Int))) : Int) != (0 : Int)) (1 : Int) else (0 : Int)))) : Int) else IntKind.wrap IntKind.i64 (↑(BitVec.toNat (BitVec.ofInt (64 : Nat) (Int.fdiv x3 (2 : Int)) ||| BitVec.ofInt (64 : Nat) (IntKind.wrap IntKind.i64 ((bif x0 == (1 : Int) then g168_0 (decide (x3 ≥ IntKind.wrap IntKind.i64 (Int.tdiv (g220_0 x1) (2 : Int)))) (1 : Int) else bif bif x0 == (4 : Int) then x0 == (4 : Int) else x0 == (5 : Int) then bif g180_0 x0 then g168_0 (decide (x3 ≥ IntKind.wrap IntKind.i64 (Int.tdiv (g220_0 x1) (2 : Int)))) (1 : Int) else IntKind.wrap IntKind.i64 (↑(BitVec.toNat (BitVec.ofInt (64 : Nat) x3 &&& BitVec.ofInt (64 : Nat) (1 : Int))) : Int) else bif bif x0 == (6 : Int) then x0 == (6 : Int) else x0 == (7 : Int) then g168_0 (IntKind.wrap IntKind.i64 (↑(BitVec.toNat (BitVec.ofInt (64 : Nat) x2 &&& BitVec.ofInt (64 : Nat) (16 : Int))) : Int) != (0 : Int)) (1 : Int) else (0 : Int)) * IntKind.wrap IntKind.i64 (Int.tdiv (g220_0 x1) (2 : Int)))))) : Int))))) : Int)) ||| BitVec.ofInt (64 : Nat) (g168_0 (bif x0 == (0 : Int) then g168_0 (decide (x3 ≥ IntKind.wrap IntKind.i64 (Int.tdiv (g220_0 x1) (2 : Int)))) (1 : Int) != g168_0 (decide ((bif g180_0 x0 then IntKind.wrap IntKind.i64 (↑(BitVec.toNat (BitVec.ofInt (64 : Nat) (IntKind.wrap IntKind.i64 (↑(BitVec.toNat (BitVec.ofInt (64 : Nat) (IntKind.wrap IntKind.i64 (x3 * (2 : Int))) &&& BitVec.ofInt (64 : Nat) (IntKind.wrap IntKind.i64 (IntKind.wrap IntKind.i64 ((2 : Int) * IntKind.wrap IntKind.i64 (Int.tdiv (g220_0 x1) (2 : Int))) - (1 : Int))))) : Int)) ||| BitVec.ofInt (64 : Nat) (bif x0 == (1 : Int) then g168_0 (decide (x3 ≥ IntKind.wrap IntKind.i64 (Int.tdiv (g220_0 x1) (2 : Int)))) (1 : Int) else bif bif x0 == (4 : Int) then x0 == (4 : Int) else x0 == (5 : Int) then bif g180_0 x0 then g168_0 (decide (x3 ≥ IntKind.wrap IntKind.i64 (Int.tdiv (g220_0 x1) (2 : Int)))) (1 : Int) else IntKind.wrap IntKind.i64 (↑(BitVec.toNat (BitVec.ofInt (64 : Nat) x3 &&& BitVec.ofInt (64 : Nat) (1 : Int))) : Int) else bif bif x0 == (6 : Int) then x0 == (6 : Int) else x0 == (7 : Int) then g168_0 (IntKind.wrap IntKind.i64 (↑(BitVec.toNat (BitVec.ofInt (64 : Nat) x2 &&& BitVec.ofInt (64 : Nat) (16 : Int))) : Int) != (0 : Int)) (1 : Int) else (0 : Int)))) : Int) else IntKind.wrap IntKind.i64 (↑(BitVec.toNat (BitVec.ofInt (64 : Nat) (Int.fdiv x3 (2 : Int)) ||| BitVec.ofInt (64 : Nat) (IntKind.wrap IntKind.i64 ((bif x0 == (1 : Int) then g168_0 (decide (x3 ≥ IntKind.wrap IntKind.i64 (Int.tdiv (g220_0 x1) (2 : Int)))) (1 : Int) else bif bif x0 == (4 : Int) then x0 == (4 : Int) else x0 == (5 : Int) then bif g180_0 x0 then g168_0 (decide (x3 ≥ IntKind.wrap IntKind.i64 (Int.tdiv (g220_0 x1) (2 : Int)))) (1 : Int) else IntKind.wrap IntKind.i64 (↑(BitVec.toNat (BitVec.ofInt (64 : Nat) x3 &&& BitVec.ofInt (64 : Nat) (1 : Int))) : Int) else bif bif x0 == (6 : Int) then x0 == (6 : Int) else x0 == (7 : Int) then g168_0 (IntKind.wrap IntKind.i64 (↑(BitVec.toNat (BitVec.ofInt (64 : Nat) x2 &&& BitVec.ofInt (64 : Nat) (16 : Int))) : Int) != (0 : Int)) (1 : Int) else (0 : Int)) * IntKind.wrap IntKind.i64 (Int.tdiv (g220_0 x1) (2 : Int)))))) : Int)) ≥ IntKind.wrap IntKind.i64 (Int.tdiv (g220_0 x1) (2 : Int)))) (1 : Int) else false) (2 : Int)))) : Int)) ||| BitVec.ofInt (64 : Nat) (IntKind.wrap IntKind.i64 (↑(BitVec.toNat (BitVec.ofInt (64 : Nat) x2 &&& BitVec.ofInt (64 : Nat) (16 : Int))) : Int)))) : Int) else IntKind.wrap IntKind.i64 (↑(BitVec.toNat (BitVec.ofInt (64 : Nat) (IntKind.wrap IntKind.i64 (↑(BitVec.toNat (BitVec.ofInt (64 : Nat) (IntKind.wrap IntKind.i64 (↑(BitVec.toNat (BitVec.ofInt (64 : Nat) (bif g180_0 x0 then g168_0 (decide (x3 ≥ IntKind.wrap IntKind.i64 (Int.tdiv (g220_0 x1) (2 : Int)))) (1 : Int) else IntKind.wrap IntKind.i64 (↑(BitVec.toNat (BitVec.ofInt (64 : Nat) x3 &&& BitVec.ofInt (64 : Nat) (1 : Int))) : Int)) ||| BitVec.ofInt (64 : Nat) (g221_0 x1 (bif g180_0 x0 then IntKind.wrap IntKind.i64 (↑(BitVec.toNat (BitVec.ofInt (64 : Nat) (IntKind.wrap IntKind.i64 (↑(BitVec.toNat (BitVec.ofInt (64 : Nat) (IntKind.wrap IntKind.i64 (x3 * (2 : Int))) &&& BitVec.ofInt (64 : Nat) (IntKind.wrap IntKind.i64 (IntKind.wrap IntKind.i64 ((2 : Int) * IntKind.wrap IntKind.i64 (Int.tdiv (g220_0 x1) (2 : Int))) - (1 : Int))))) : Int)) ||| BitVec.ofInt (64 : Nat) (bif x0 == (1 : Int) then g168_0 (decide (x3 ≥ IntKind.wrap IntKind.i64 (Int.tdiv (g220_0 x1) (2 : Int)))) (1 : Int) else bif bif x0 == (4 : Int) then x0 == (4 : Int) else x0 == (5 : Int) then bif g180_0 x0 then g168_0 (decide (x3 ≥ IntKind.wrap IntKind.i64 (Int.tdiv (g220_0 x1) (2 : Int)))) (1 : Int) else IntKind.wrap IntKind.i64 (↑(BitVec.toNat (BitVec.ofInt (64 : Nat) x3 &&& BitVec.ofInt (64 : Nat) (1 : Int))) : Int) else bif bif x0 == (6 : Int) then x0 == (6 : Int) else x0 == (7 : Int) then g168_0 (IntKind.wrap IntKind.i64 (↑(BitVec.toNat (BitVec.ofInt (64 : Nat) x2 &&& BitVec.ofInt (64 : Nat) (16 : Int))) : Int) != (0 : Int)) (1 : Int) else (0 : Int)))) : Int) else IntKind.wrap IntKind.i64 (↑(BitVec.toNat (BitVec.ofInt (64 : Nat) (Int.fdiv x3 (2 : Int)) ||| BitVec.ofInt (64 : Nat) (IntKind.wrap IntKind.i64 ((bif x0 == (1 : Int) then g168_0 (decide (x3 ≥ IntKind.wrap IntKind.i64 (Int.tdiv (g220_0 x1) (2 : Int)))) (1 : Int) else bif bif x0 == (4 : Int) then x0 == (4 : Int) else x0 == (5 : Int) then bif g180_0 x0 then g168_0 (decide (x3 ≥ IntKind.wrap IntKind.i64 (Int.tdiv (g220_0 x1) (2 : Int)))) (1 : Int) else IntKind.wrap IntKind.i64 (↑(BitVec.toNat (BitVec.ofInt (64 : Nat) x3 &&& BitVec.ofInt (64 : Nat) (1 : Int))) : Int) else bif bif x0 == (6 : Int) then x0 == (6 : Int) else x0 == (7 : Int) then g168_0 (IntKind.wrap IntKind.i64 (↑(BitVec.toNat (BitVec.ofInt (64 : Nat) x2 &&& BitVec.ofInt (64 : Nat) (16 : Int))) : Int) != (0 : Int)) (1 : Int) else (0 : Int)) * IntKind.wrap IntKind.i64 (Int.tdiv (g220_0 x1) (2 : Int)))))) : Int))))) : Int)) ||| BitVec.ofInt (64 : Nat) (g168_0 (bif x0 == (0 : Int) then g168_0 (decide (x3 ≥ IntKind.wrap IntKind.i64 (Int.tdiv (g220_0 x1) (2 : Int)))) (1 : Int) != g168_0 (decide ((bif g180_0 x0 then IntKind.wrap IntKind.i64 (↑(BitVec.toNat (BitVec.ofInt (64 : Nat) (IntKind.wrap IntKind.i64 (↑(BitVec.toNat (BitVec.ofInt (64 : Nat) (IntKind.wrap IntKind.i64 (x3 * (2 : Int))) &&& BitVec.ofInt (64 : Nat) (IntKind.wrap IntKind.i64 (IntKind.wrap IntKind.i64 ((2 : Int) * IntKind.wrap IntKind.i64 (Int.tdiv (g220_0 x1) (2 : Int))) - (1 : Int))))) : Int)) ||| BitVec.ofInt (64 : Nat) (bif x0 == (1 : Int) then g168_0 (decide (x3 ≥ IntKind.wrap IntKind.i64 (Int.tdiv (g220_0 x1) (2 : Int)))) (1 : Int) else bif bif x0 == (4 : Int) then x0 == (4 : Int) else x0 == (5 : Int) then bif g180_0 x0 then g168_0 (decide (x3 ≥ IntKind.wrap IntKind.i64 (Int.tdiv (g220_0 x1) (2 : Int)))) (1 : Int) else IntKind.wrap IntKind.i64 (↑(BitVec.toNat (BitVec.ofInt (64 : Nat) x3 &&& BitVec.ofInt (64 : Nat) (1 : Int))) : Int) else bif bif x0 == (6 : Int) then x0 == (6 : Int) else x0 == (7 : Int) then g168_0 (IntKind.wrap IntKind.i64 (↑(BitVec.toNat (BitVec.ofInt (64 : Nat) x2 &&& BitVec.ofInt (64 : Nat) (16 : Int))) : Int) != (0 : Int)) (1 : Int) else (0 : Int)))) : Int) else IntKind.wrap IntKind.i64 (↑(BitVec.toNat (BitVec.ofInt (64 : Nat) (Int.fdiv x3 (2 : Int)) ||| BitVec.ofInt (64 : Nat) (IntKind.wrap IntKind.i64 ((bif x0 == (1 : Int) then g168_0 (decide (x3 ≥ IntKind.wrap IntKind.i64 (Int.tdiv (g220_0 x1) (2 : Int)))) (1 : Int) else bif bif x0 == (4 : Int) then x0 == (4 : Int) else x0 == (5 : Int) then bif g180_0 x0 then g168_0 (decide (x3 ≥ IntKind.wrap IntKind.i64 (Int.tdiv (g220_0 x1) (2 : Int)))) (1 : Int) else IntKind.wrap IntKind.i64 (↑(BitVec.toNat (BitVec.ofInt (64 : Nat) x3 &&& BitVec.ofInt (64 : Nat) (1 : Int))) : Int) else bif bif x0 == (6 : Int) then x0 == (6 : Int) else x0 == (7 : Int) then g168_0 (IntKind.wrap IntKind.i64 (↑(BitVec.toNat (BitVec.ofInt (64 : Nat) x2 &&& BitVec.ofInt (64 : Nat) (16 : Int))) : Int) != (0 : Int)) (1 : Int) else (0 : Int)) * IntKind.wrap IntKind.i64 (Int.tdiv (g220_0 x1) (2 : Int)))))) : Int)) ≥ IntKind.wrap IntKind.i64 (Int.tdiv (g220_0 x1) (2 : Int)))) (1 : Int) else false) (2 : Int)))) : Int)) ||| BitVec.ofInt (64 : Nat) (IntKind.wrap IntKind.i64 ((bif g180_0 x0 then g168_0 (decide (x3 ≥ IntKind.wrap IntKind.i64 (Int.tdiv (g220_0 x1) (2 : Int)))) (1 : Int) else IntKind.wrap IntKind.i64 (↑(BitVec.toNat (BitVec.ofInt (64 : Nat) x3 &&& BitVec.ofInt (64 : Nat) (1 : Int))) : Int)) * (16 : Int))))) : Int)
theorem d177 (x0 : Int) (x1 : Int) (x2 : Int) (x3 : Int) : fnT Q221 [] [] 0 F177 [.one (.lit (.int .i64 x0)), .one (.lit (.int .i64 x1)), .one (.lit (.int .i64 x2)), .one (.lit (.int .i64 x3))] [] = some ((SV.tup [SV.one (T.lit (Value.int IntKind.i64 (r177_0 x0 x1 x2 x3))), SV.one (T.lit (Value.int IntKind.i64 (g177_1 x0 x1 x2 x3)))], []), true) := by kernel_rfl
theorem e177 (x0 : Int) (x1 : Int) (x2 : Int) (x3 : Int) : fnT Q221 [] [] 0 F177 [.one (.lit (.int .i64 x0)), .one (.lit (.int .i64 x1)), .one (.lit (.int .i64 x2)), .one (.lit (.int .i64 x3))] [] = some ((SV.tup [SV.one (T.lit (Value.int IntKind.i64 (g177_0 x0 x1 x2 x3))), SV.one (T.lit (Value.int IntKind.i64 (g177_1 x0 x1 x2 x3)))], []), true) := by rw [d177, c177_0]
def q177 : List SV → List Blk → Option ((SV × List Blk) × Bool)
  | [.one (.lit (.int .i64 x0)), .one (.lit (.int .i64 x1)), .one (.lit (.int .i64 x2)), .one (.lit (.int .i64 x3))], [] => some ((SV.tup [SV.one (T.lit (Value.int IntKind.i64 (g177_0 x0 x1 x2 x3))), SV.one (T.lit (Value.int IntKind.i64 (g177_1 x0 x1 x2 x3)))], []), true)
  | _, _ => none
theorem t177 (args : List SV) (hp : List Blk) (r : SV × List Blk) (h : q177 args hp = some (r, true)) : R 177 args hp = some r := by
  unfold q177 at h
  split at h
  · rename_i x0 x1 x2 x3; exact R_fn at177 0 (fnT_run Q221_ok ((e177 x0 x1 x2 x3).trans h))
  · simp at h
noncomputable def Q177 : Qt := qcons 177 q177 Q221
theorem Q177_ok : QOk R Q177 := qcons_ok t177 Q221_ok
/-! spec.l3By -/
def s175_0 (v0 : Int) (v1 : Int) (v2 : Int) (v3 : Int) (v4 : Int) (v5 : Int) : St := ⟨[(0, .one (.lit (.int .i64 v0))), (1, .one (.lit (.int .i64 v1))), (2, .one (.lit (.int .i64 v2))), (3, .one (.lit (.int .i64 v3))), (4, .one (.lit (.int .i64 v4))), (13, .one (.lit (.int .i64 v5)))], []⟩
def x175_0 (v0 : Int) (v1 : Int) (v2 : Int) (v3 : Int) (v4 : Int) (v5 : Int) : List (Ex × Bool × Tr) := [(Ex.brk (0 : Nat), !decide (v4 > (0 : Int)), Tr.leaf { sl := [((0 : Nat), SV.one (T.lit (Value.int IntKind.i64 v0))), ((1 : Nat), SV.one (T.lit (Value.int IntKind.i64 v1))), ((2 : Nat), SV.one (T.lit (Value.int IntKind.i64 v2))), ((3 : Nat), SV.one (T.lit (Value.int IntKind.i64 v3))), ((4 : Nat), SV.one (T.lit (Value.int IntKind.i64 v4))), ((13 : Nat), SV.one (T.lit (Value.int IntKind.i64 v5))), ((35 : Nat), SV.one (T.lit (Value.bool (decide (v4 > (0 : Int))))))], hp := [] })]
def u175_0 (v0 : Int) (v1 : Int) (v2 : Int) (v3 : Int) (v4 : Int) (v5 : Int) : St := { sl := [((0 : Nat), SV.one (T.lit (Value.int IntKind.i64 v0))), ((1 : Nat), SV.one (T.lit (Value.int IntKind.i64 v1))), ((2 : Nat), SV.one (T.lit (Value.int IntKind.i64 (g177_1 v0 v1 v2 v3)))), ((3 : Nat), SV.one (T.lit (Value.int IntKind.i64 (g177_0 v0 v1 v2 v3)))), ((4 : Nat), SV.one (T.lit (Value.int IntKind.i64 (IntKind.wrap IntKind.i64 (v4 - (1 : Int)))))), ((13 : Nat), SV.one (T.lit (Value.int IntKind.i64 (IntKind.wrap IntKind.i64 (↑(BitVec.toNat (BitVec.ofInt (64 : Nat) v5 ||| BitVec.ofInt (64 : Nat) (IntKind.wrap IntKind.i64 (↑(BitVec.toNat (BitVec.ofInt (64 : Nat) (g177_1 v0 v1 v2 v3) &&& BitVec.ofInt (64 : Nat) (2 : Int))) : Int)))) : Int)))))], hp := [] }
def y175_0 (v0 : Int) (v1 : Int) (v2 : Int) (v3 : Int) (v4 : Int) (v5 : Int) : Bool := true
def z175_0 (v0 : Int) (v1 : Int) (v2 : Int) (v3 : Int) (v4 : Int) (v5 : Int) : Bool := ((!decide (v4 > (0 : Int))) || false)
def L175_0 : Nat → Int → Int → Int → Int → Int → Int → Option (Int × Int × Int × Int × Int × Int)
  | 0, _, _, _, _, _, _ => none
  | k + 1, v0, v1, v2, v3, v4, v5 => bif y175_0 v0 v1 v2 v3 v4 v5 then bif z175_0 v0 v1 v2 v3 v4 v5 then some (v0, v1, v2, v3, v4, v5) else L175_0 k (v0) (v1) (g177_1 v0 v1 v2 v3) (g177_0 v0 v1 v2 v3) (IntKind.wrap IntKind.i64 (v4 - (1 : Int))) (IntKind.wrap IntKind.i64 (↑(BitVec.toNat (BitVec.ofInt (64 : Nat) v5 ||| BitVec.ofInt (64 : Nat) (IntKind.wrap IntKind.i64 (↑(BitVec.toNat (BitVec.ofInt (64 : Nat) (g177_1 v0 v1 v2 v3) &&& BitVec.ofInt (64 : Nat) (2 : Int))) : Int)))) : Int)) else none
theorem hb175_0 (n : Nat) (v0 : Int) (v1 : Int) (v2 : Int) (v3 : Int) (v4 : Int) (v5 : Int) : Go.Zq.evt Q177 [] [] lqN 0 n F175b0 (s175_0 v0 v1 v2 v3 v4 v5) = some (⟨x175_0 v0 v1 v2 v3 v4 v5, some (.leaf (u175_0 v0 v1 v2 v3 v4 v5))⟩, y175_0 v0 v1 v2 v3 v4 v5) := by kernel_rfl
theorem hc175_0 (v0 : Int) (v1 : Int) (v2 : Int) (v3 : Int) (v4 : Int) (v5 : Int) : canonS 0 [0, 1, 2, 3, 4, 13] (u175_0 v0 v1 v2 v3 v4 v5) = some (s175_0 (v0) (v1) (g177_1 v0 v1 v2 v3) (g177_0 v0 v1 v2 v3) (IntKind.wrap IntKind.i64 (v4 - (1 : Int))) (IntKind.wrap IntKind.i64 (↑(BitVec.toNat (BitVec.ofInt (64 : Nat) v5 ||| BitVec.ofInt (64 : Nat) (IntKind.wrap IntKind.i64 (↑(BitVec.toNat (BitVec.ofInt (64 : Nat) (g177_1 v0 v1 v2 v3) &&& BitVec.ofInt (64 : Nat) (2 : Int))) : Int)))) : Int)), true) := by
  kernel_rfl
def w175_0_0 (n : Nat) (v0 : Int) (v1 : Int) (v2 : Int) (v3 : Int) (v4 : Int) (v5 : Int) : Int := ((L175_0 n v0 v1 v2 v3 v4 v5).getD (default, default, default, default, default, default)).1
def w175_0_1 (n : Nat) (v0 : Int) (v1 : Int) (v2 : Int) (v3 : Int) (v4 : Int) (v5 : Int) : Int := ((L175_0 n v0 v1 v2 v3 v4 v5).getD (default, default, default, default, default, default)).2.1
def w175_0_2 (n : Nat) (v0 : Int) (v1 : Int) (v2 : Int) (v3 : Int) (v4 : Int) (v5 : Int) : Int := ((L175_0 n v0 v1 v2 v3 v4 v5).getD (default, default, default, default, default, default)).2.2.1
def w175_0_3 (n : Nat) (v0 : Int) (v1 : Int) (v2 : Int) (v3 : Int) (v4 : Int) (v5 : Int) : Int := ((L175_0 n v0 v1 v2 v3 v4 v5).getD (default, default, default, default, default, default)).2.2.2.1
def w175_0_4 (n : Nat) (v0 : Int) (v1 : Int) (v2 : Int) (v3 : Int) (v4 : Int) (v5 : Int) : Int := ((L175_0 n v0 v1 v2 v3 v4 v5).getD (default, default, default, default, default, default)).2.2.2.2.1
def w175_0_5 (n : Nat) (v0 : Int) (v1 : Int) (v2 : Int) (v3 : Int) (v4 : Int) (v5 : Int) : Int := ((L175_0 n v0 v1 v2 v3 v4 v5).getD (default, default, default, default, default, default)).2.2.2.2.2
theorem li175_0 (n : Nat) : ∀ (v0 : Int) (v1 : Int) (v2 : Int) (v3 : Int) (v4 : Int) (v5 : Int) (w : Int × Int × Int × Int × Int × Int), L175_0 n v0 v1 v2 v3 v4 v5 = some w → w.1 = v0 ∧ w.2.1 = v1 := by
  induction n with
  | zero => intro v0 v1 v2 v3 v4 v5 w h; simp [L175_0] at h
  | succ k ih =>
    intro v0 v1 v2 v3 v4 v5 w h
    unfold L175_0 at h
    cases hy : y175_0 v0 v1 v2 v3 v4 v5
    · rw [hy] at h; simp at h
    · rw [hy, cond_true] at h
      cases hz : z175_0 v0 v1 v2 v3 v4 v5
      · rw [hz, cond_false] at h
        exact ih _ _ _ _ _ _ w h
      · rw [hz, cond_true] at h
        obtain rfl := Option.some.inj h
        simp only [and_self]
def lq175_0 (n : Nat) (σ : St) : Option (O × Bool) :=
  match canonS 0 [0, 1, 2, 3, 4, 13] σ with
  | some (⟨[(0, .one (.lit (.int .i64 v0))), (1, .one (.lit (.int .i64 v1))), (2, .one (.lit (.int .i64 v2))), (3, .one (.lit (.int .i64 v3))), (4, .one (.lit (.int .i64 v4))), (13, .one (.lit (.int .i64 v5)))], []⟩, c) => some (⟨x175_0 v0 v1 (w175_0_2 n v0 v1 v2 v3 v4 v5) (w175_0_3 n v0 v1 v2 v3 v4 v5) (w175_0_4 n v0 v1 v2 v3 v4 v5) (w175_0_5 n v0 v1 v2 v3 v4 v5), none⟩, (c) && (L175_0 n v0 v1 v2 v3 v4 v5).isSome)
  | _ => none
theorem lt175_0 (n : Nat) : Tells (lq175_0 n) (evc R 0 n (.loop [0, 1, 2, 3, 4, 13] F175b0)) := fun σ σr o h hl => by
  unfold lq175_0 at h
  split at h
  · rename_i v0 v1 v2 v3 v4 v5 c hs
    have hsome : (L175_0 n v0 v1 v2 v3 v4 v5).isSome = true := by
      have := congrArg (Option.map (·.2)) h
      simp only [Option.map_some, Option.some.injEq, Bool.and_eq_true] at this
      exact this.2
    obtain ⟨w, hw⟩ := Option.isSome_iff_exists.1 hsome
    have hi := li175_0 n v0 v1 v2 v3 v4 v5 w hw
    have ex : x175_0 v0 v1 (w175_0_2 n v0 v1 v2 v3 v4 v5) (w175_0_3 n v0 v1 v2 v3 v4 v5) (w175_0_4 n v0 v1 v2 v3 v4 v5) (w175_0_5 n v0 v1 v2 v3 v4 v5) = x175_0 (((L175_0 n v0 v1 v2 v3 v4 v5).getD (default, default, default, default, default, default)).1) (((L175_0 n v0 v1 v2 v3 v4 v5).getD (default, default, default, default, default, default)).2.1) (((L175_0 n v0 v1 v2 v3 v4 v5).getD (default, default, default, default, default, default)).2.2.1) (((L175_0 n v0 v1 v2 v3 v4 v5).getD (default, default, default, default, default, default)).2.2.2.1) (((L175_0 n v0 v1 v2 v3 v4 v5).getD (default, default, default, default, default, default)).2.2.2.2.1) (((L175_0 n v0 v1 v2 v3 v4 v5).getD (default, default, default, default, default, default)).2.2.2.2.2) := by simp only [w175_0_2, w175_0_3, w175_0_4, w175_0_5, hw, Option.getD_some, hi]
    rw [ex] at h
    exact lq_tells (V := Int × Int × Int × Int × Int × Int) (f := Go.Zq.evt Q177 [] [] lqN 0 n F175b0) (st := fun v => s175_0 v.1 v.2.1 v.2.2.1 v.2.2.2.1 v.2.2.2.2.1 v.2.2.2.2.2) (ν := fun v => u175_0 v.1 v.2.1 v.2.2.1 v.2.2.2.1 v.2.2.2.2.1 v.2.2.2.2.2) (ob := (fun v => ⟨x175_0 v.1 v.2.1 v.2.2.1 v.2.2.2.1 v.2.2.2.2.1 v.2.2.2.2.2, some (.leaf (u175_0 v.1 v.2.1 v.2.2.1 v.2.2.2.1 v.2.2.2.2.1 v.2.2.2.2.2))⟩)) (okb := fun v => y175_0 v.1 v.2.1 v.2.2.1 v.2.2.2.1 v.2.2.2.2.1 v.2.2.2.2.2) (next := fun v => (fun v0 v1 v2 v3 v4 v5 => (v0, v1, g177_1 v0 v1 v2 v3, g177_0 v0 v1 v2 v3, IntKind.wrap IntKind.i64 (v4 - (1 : Int)), IntKind.wrap IntKind.i64 (↑(BitVec.toNat (BitVec.ofInt (64 : Nat) v5 ||| BitVec.ofInt (64 : Nat) (IntKind.wrap IntKind.i64 (↑(BitVec.toNat (BitVec.ofInt (64 : Nat) (g177_1 v0 v1 v2 v3) &&& BitVec.ofInt (64 : Nat) (2 : Int))) : Int)))) : Int))) v.1 v.2.1 v.2.2.1 v.2.2.2.1 v.2.2.2.2.1 v.2.2.2.2.2)
      (evt_tells Q177_ok (by simp only [F175, F175b0, Loops, and_self, and_true])) (fun v => hb175_0 n v.1 v.2.1 v.2.2.1 v.2.2.2.1 v.2.2.2.2.1 v.2.2.2.2.2) (fun _ => rfl) (fun v _ _ => hc175_0 v.1 v.2.1 v.2.2.1 v.2.2.2.1 v.2.2.2.2.1 v.2.2.2.2.2) (L := fun k v => L175_0 k v.1 v.2.1 v.2.2.1 v.2.2.2.1 v.2.2.2.2.1 v.2.2.2.2.2) (fun _ => rfl) (fun _ _ => rfl) (v := (v0, v1, v2, v3, v4, v5)) (d := (default, default, default, default, default, default)) hs h hl
  · simp at h
def lq175x0 (n : Nat) : Lq := fun live σ => if live = [0, 1, 2, 3, 4, 13] then lq175_0 n σ else none
def g175_0 (x0 : Int) (x1 : Int) (x2 : Int) (x3 : Int) (x4 : Int) : Int := bif x4 == (0 : Int) then x3 else w175_0_3 (70 : Nat) x0 x1 x2 x3 x4 (0 : Int)
def g175_1 (x0 : Int) (x1 : Int) (x2 : Int) (x3 : Int) (x4 : Int) : Int := bif x4 == (0 : Int) then IntKind.wrap IntKind.i64 (↑(BitVec.toNat (BitVec.ofInt (64 : Nat) (IntKind.wrap IntKind.i64 (↑(BitVec.toNat (BitVec.ofInt (64 : Nat) (IntKind.wrap IntKind.i64 (↑(BitVec.toNat (BitVec.ofInt (64 : Nat) x2 &&& BitVec.ofInt (64 : Nat) (16 : Int))) : Int)) ||| BitVec.ofInt (64 : Nat) (g221_0 x1 x3))) : Int)) ||| BitVec.ofInt (64 : Nat) (g168_0 (bif IntKind.wrap IntKind.i64 (↑(BitVec.toNat (BitVec.ofInt (64 : Nat) x2 &&& BitVec.ofInt (64 : Nat) (16 : Int))) : Int) != (0 : Int) then decide (x0 ≥ (6 : Int)) else false) (1 : Int)))) : Int) else IntKind.wrap IntKind.i64 (↑(BitVec.toNat (BitVec.ofInt (64 : Nat) (w175_0_2 (70 : Nat) x0 x1 x2 x3 x4 (0 : Int)) ||| BitVec.ofInt (64 : Nat) (w175_0_5 (70 : Nat) x0 x1 x2 x3 x4 (0 : Int)))) : Int)
theorem k175 (x0 : Int) (x1 : Int) (x2 : Int) (x3 : Int) (x4 : Int) (h : (Option.isSome (L175_0 (70 : Nat) x0 x1 x2 x3 x4 (0 : Int)) || x4 == (0 : Int)) = true) : ((Option.isSome (L175_0 (70 : Nat) x0 x1 x2 x3 x4 (0 : Int)) && true || x4 == (0 : Int)) && true) = true := by
  have h0 := h
  simp only [h0, Bool.and_true, Bool.true_and, Bool.or_true, Bool.true_or, Bool.or_false, Bool.false_or, Bool.and_self, Bool.cond_self, Bool.not_true, Bool.not_false, Bool.false_and, Bool.and_false, u64_dec, Nat.zero_add, Nat.le_refl, decide_true, eq_self, List.drop_zero, List.take_length, Bool.not_not, bif_tf, bif_ft]
theorem e175 (x0 : Int) (x1 : Int) (x2 : Int) (x3 : Int) (x4 : Int) : fnL Q177 [] [] (lq175x0 70) 70 F175 [.one (.lit (.int .i64 x0)), .one (.lit (.int .i64 x1)), .one (.lit (.int .i64 x2)), .one (.lit (.int .i64 x3)), .one (.lit (.int .i64 x4))] [] = some ((SV.tup [SV.one (T.lit (Value.int IntKind.i64 (g175_0 x0 x1 x2 x3 x4))), SV.one (T.lit (Value.int IntKind.i64 (g175_1 x0 x1 x2 x3 x4)))], []), (Option.isSome (L175_0 (70 : Nat) x0 x1 x2 x3 x4 (0 : Int)) && true || x4 == (0 : Int)) && true) := by kernel_rfl
def q175 : List SV → List Blk → Option ((SV × List Blk) × Bool)
  | [.one (.lit (.int .i64 x0)), .one (.lit (.int .i64 x1)), .one (.lit (.int .i64 x2)), .one (.lit (.int .i64 x3)), .one (.lit (.int .i64 x4))], [] => some ((SV.tup [SV.one (T.lit (Value.int IntKind.i64 (g175_0 x0 x1 x2 x3 x4))), SV.one (T.lit (Value.int IntKind.i64 (g175_1 x0 x1 x2 x3 x4)))], []), Option.isSome (L175_0 (70 : Nat) x0 x1 x2 x3 x4 (0 : Int)) || x4 == (0 : Int))
  | _, _ => none
theorem t175 (args : List SV) (hp : List Blk) (r : SV × List Blk) (h : q175 args hp = some (r, true)) : R 175 args hp = some r := by
  unfold q175 at h
  split at h
  · rename_i x0 x1 x2 x3 x4; exact R_fn at175 70 (fnL_run Q177_ok (by simp only [F175, F175b0, Loops, true_and, and_true]; first | trivial | (repeat' apply And.intro) <;> first | trivial  | exact fun σ σr o h hl => lt175_0 _ σ σr o h hl) (okTrans (e175 x0 x1 x2 x3 x4) (k175 x0 x1 x2 x3 x4) h))
  · simp at h
noncomputable def Q175 : Qt := qcons 175 q175 Q177
theorem Q175_ok : QOk R Q175 := qcons_ok t175 Q177_ok
/-! spec.RotateBack -/
def g82_0 (x0 : Int) (x1 : Int) (x2 : Int) (x3 : Int) (x4 : Int) : Int := bif bif bif !g174_0 x0 x1 x2 x3 then true else !g144_0 x4 (0 : Int) (63 : Int) then true else decide (x0 < (4 : Int)) then (0 : Int) else g175_0 (IntKind.wrap IntKind.i64 (↑(BitVec.toNat (BitVec.ofInt (64 : Nat) x0 ^^^ BitVec.ofInt (64 : Nat) (1 : Int))) : Int)) x1 (g175_1 x0 x1 x2 x3 x4) (g175_0 x0 x1 x2 x3 x4) x4
def r82_1 (x0 : Int) (x1 : Int) (x2 : Int) (x3 : Int) (x4 : Int) : Bool := bif bif bif !g174_0 x0 x1 x2 x3 then true else !g144_0 x4 (0 : Int) (63 : Int) then true else decide (x0 < (4 : Int)) then false else true
def g82_1 (x0 : Int) (x1 : Int) (x2 : Int) (x3 : Int) (x4 : Int) : Bool := !bif bif !g174_0 x0 x1 x2 x3 then true else !g144_0 x4 (0 : Int) (63 : Int) then true else decide (x0 < (4 : Int))
theorem c82_1 (x0 : Int) (x1 : Int) (x2 : Int) (x3 : Int) (x4 : Int) : r82_1 x0 x1 x2 x3 x4 = g82_1 x0 x1 x2 x3 x4 := by simp only [r82_1, g82_1, Bool.cond_self, bif_tf, bif_ft, Bool.not_not, List.drop_zero, List.take_length]
theorem k82 (x0 : Int) (x1 : Int) (x2 : Int) (x3 : Int) (x4 : Int) (h : ((Option.isSome (L175_0 (70 : Nat) x0 x1 x2 x3 x4 (0 : Int)) || x4 == (0 : Int)) && (Option.isSome (L175_0 (70 : Nat) (IntKind.wrap IntKind.i64 (↑(BitVec.toNat (BitVec.ofInt (64 : Nat) x0 ^^^ BitVec.ofInt (64 : Nat) (1 : Int))) : Int)) x1 (g175_1 x0 x1 x2 x3 x4) (g175_0 x0 x1 x2 x3 x4) x4 (0 : Int)) || x4 == (0 : Int)) || bif bif !g174_0 x0 x1 x2 x3 then true else !g144_0 x4 (0 : Int) (63 : Int) then true else decide (x0 < (4 : Int))) = true) : (((Option.isSome (L175_0 (70 : Nat) x0 x1 x2 x3 x4 (0 : Int)) || x4 == (0 : Int)) && true && ((Option.isSome (L175_0 (70 : Nat) (IntKind.wrap IntKind.i64 (↑(BitVec.toNat (BitVec.ofInt (64 : Nat) x0 ^^^ BitVec.ofInt (64 : Nat) (1 : Int))) : Int)) x1 (g175_1 x0 x1 x2 x3 x4) (g175_0 x0 x1 x2 x3 x4) x4 (0 : Int)) || x4 == (0 : Int)) && true && true) || bif bif !g174_0 x0 x1 x2 x3 then true else !g144_0 x4 (0 : Int) (63 : Int) then true else decide (x0 < (4 : Int))) && true) = true := by
  have h0 := h
  simp only [h0, Bool.and_true, Bool.true_and, Bool.or_true, Bool.true_or, Bool.or_false, Bool.false_or, Bool.and_self, Bool.cond_self, Bool.not_true, Bool.not_false, Bool.false_and, Bool.and_false, u64_dec, Nat.zero_add, Nat.le_refl, decide_true, eq_self, List.drop_zero, List.take_length, Bool.not_not, bif_tf, bif_ft]
theorem d82 (x0 : Int) (x1 : Int) (x2 : Int) (x3 : Int) (x4 : Int) : fnT Q175 [] [] 0 F82 [.one (.lit (.int .i64 x0)), .one (.lit (.int .i64 x1)), .one (.lit (.int .i64 x2)), .one (.lit (.int .i64 x3)), .one (.lit (.int .i64 x4))] [] = some ((SV.tup [SV.one (T.lit (Value.int IntKind.i64 (g82_0 x0 x1 x2 x3 x4))), SV.one (T.lit (Value.bool (r82_1 x0 x1 x2 x3 x4)))], []), ((Option.isSome (L175_0 (70 : Nat) x0 x1 x2 x3 x4 (0 : Int)) || x4 == (0 : Int)) && true && ((Option.isSome (L175_0 (70 : Nat) (IntKind.wrap IntKind.i64 (↑(BitVec.toNat (BitVec.ofInt (64 : Nat) x0 ^^^ BitVec.ofInt (64 : Nat) (1 : Int))) : Int)) x1 (g175_1 x0 x1 x2 x3 x4) (g175_0 x0 x1 x2 x3 x4) x4 (0 : Int)) || x4 == (0 : Int)) && true && true) || bif bif !g174_0 x0 x1 x2 x3 then true else !g144_0 x4 (0 : Int) (63 : Int) then true else decide (x0 < (4 : Int))) && true) := by kernel_rfl
theorem e82 (x0 : Int) (x1 : Int) (x2 : Int) (x3 : Int) (x4 : Int) : fnT Q175 [] [] 0 F82 [.one (.lit (.int .i64 x0)), .one (.lit (.int .i64 x1)), .one (.lit (.int .i64 x2)), .one (.lit (.int .i64 x3)), .one (.lit (.int .i64 x4))] [] = some ((SV.tup [SV.one (T.lit (Value.int IntKind.i64 (g82_0 x0 x1 x2 x3 x4))), SV.one (T.lit (Value.bool (g82_1 x0 x1 x2 x3 x4)))], []), ((Option.isSome (L175_0 (70 : Nat) x0 x1 x2 x3 x4 (0 : Int)) || x4 == (0 : Int)) && true && ((Option.isSome (L175_0 (70 : Nat) (IntKind.wrap IntKind.i64 (↑(BitVec.toNat (BitVec.ofInt (64 : Nat) x0 ^^^ BitVec.ofInt (64 : Nat) (1 : Int))) : Int)) x1 (g175_1 x0 x1 x2 x3 x4) (g175_0 x0 x1 x2 x3 x4) x4 (0 : Int)) || x4 == (0 : Int)) && true && true) || bif bif !g174_0 x0 x1 x2 x3 then true else !g144_0 x4 (0 : Int) (63 : Int) then true else decide (x0 < (4 : Int))) && true) := by rw [d82, c82_1]
def q82 : List SV → List Blk → Option ((SV × List Blk) × Bool)
  | [.one (.lit (.int .i64 x0)), .one (.lit (.int .i64 x1)), .one (.lit (.int .i64 x2)), .one (.lit (.int .i64 x3)), .one (.lit (.int .i64 x4))], [] => some ((SV.tup [SV.one (T.lit (Value.int IntKind.i64 (g82_0 x0 x1 x2 x3 x4))), SV.one (T.lit (Value.bool (g82_1 x0 x1 x2 x3 x4)))], []), (Option.isSome (L175_0 (70 : Nat) x0 x1 x2 x3 x4 (0 : Int)) || x4 == (0 : Int)) && (Option.isSome (L175_0 (70 : Nat) (IntKind.wrap IntKind.i64 (↑(BitVec.toNat (BitVec.ofInt (64 : Nat) x0 ^^^ BitVec.ofInt (64 : Nat) (1 : Int))) : Int)) x1 (g175_1 x0 x1 x2 x3 x4) (g175_0 x0 x1 x2 x3 x4) x4 (0 : Int)) || x4 == (0 : Int)) || bif bif !g174_0 x0 x1 x2 x3 then true else !g144_0 x4 (0 : Int) (63 : Int) then true else decide (x0 < (4 : Int)))
  | _, _ => none
theorem t82 (args : List SV) (hp : List Blk) (r : SV × List Blk) (h : q82 args hp = some (r, true)) : R 82 args hp = some r := by
  unfold q82 at h
  split at h
  · rename_i x0 x1 x2 x3 x4; exact R_fn at82 0 (fnT_run Q175_ok (okTrans (e82 x0 x1 x2 x3 x4) (k82 x0 x1 x2 x3 x4) h))
  · simp at h
noncomputable def Q82 : Qt := qcons 82 q82 Q175
theorem Q82_ok : QOk R Q82 := qcons_ok t82 Q175_ok
/-! spec.DrawSignedOf -/
def g158_0 (x0 : List Row) : Int := g148_0 x0 (0 : Int) (0 : Int)
def g158_1 (x0 : List Row) : Int := g149_0 x0 (1 : Int) (g148_2 x0 (0 : Int) (0 : Int)) (g148_0 x0 (0 : Int) (0 : Int))
theorem k158 (x0 : List Row) (h : (bytesOk x0) = true) : (bytesOk x0 && true && true && (bytesOk x0 && true && true && true) && true) = true := by
  have h0 := h
  simp only [h0, Bool.and_true, Bool.true_and, Bool.or_true, Bool.true_or, Bool.or_false, Bool.false_or, Bool.and_self, Bool.cond_self, Bool.not_true, Bool.not_false, Bool.false_and, Bool.and_false, u64_dec, Nat.zero_add, Nat.le_refl, decide_true, eq_self, List.drop_zero, List.take_length, Bool.not_not, bif_tf, bif_ft]
theorem e158 (x0 : List Row) : fnT Q82 [] [] 0 F158 [.one (.imm true 1 x0)] [] = some ((SV.tup [SV.one (T.lit (Value.int IntKind.i64 (g158_0 x0))), SV.one (T.lit (Value.int IntKind.i64 (g158_1 x0)))], []), bytesOk x0 && true && true && (bytesOk x0 && true && true && true) && true) := by kernel_rfl
def q158 : List SV → List Blk → Option ((SV × List Blk) × Bool)
  | [.one (.imm true 1 x0)], [] => some ((SV.tup [SV.one (T.lit (Value.int IntKind.i64 (g158_0 x0))), SV.one (T.lit (Value.int IntKind.i64 (g158_1 x0)))], []), bytesOk x0)
  | _, _ => none
theorem t158 (args : List SV) (hp : List Blk) (r : SV × List Blk) (h : q158 args hp = some (r, true)) : R 158 args hp = some r := by
  unfold q158 at h
  split at h
  · rename_i x0; exact R_fn at158 0 (fnT_run Q82_ok (okTrans (e158 x0) (k158 x0) h))
  · simp at h
noncomputable def Q158 : Qt := qcons 158 q158 Q82
theorem Q158_ok : QOk R Q158 := qcons_ok t158 Q82_ok
/-! spec.DrawReverseBits -/
theorem k83 (x0 : List Row) (h : (bytesOk x0) = true) : (bytesOk x0 && true && true && true) = true := by
  have h0 := h
  simp only [h0, Bool.and_true, Bool.true_and, Bool.or_true, Bool.true_or, Bool.or_false, Bool.false_or, Bool.and_self, Bool.cond_self, Bool.not_true, Bool.not_false, Bool.false_and, Bool.and_false, u64_dec, Nat.zero_add, Nat.le_refl, decide_true, eq_self, List.drop_zero, List.take_length, Bool.not_not, bif_tf, bif_ft]
theorem e83 (x0 : List Row) : fnT Q158 [] [] 0 F83 [.one (.imm true 1 x0)] [] = some ((SV.tup [SV.one (T.lit (Value.int IntKind.i64 (g158_0 x0))), SV.one (T.lit (Value.int IntKind.i64 (g158_1 x0)))], []), bytesOk x0 && true && true && true) := by kernel_rfl
def q83 : List SV → List Blk → Option ((SV × List Blk) × Bool)
  | [.one (.imm true 1 x0)], [] => some ((SV.tup [SV.one (T.lit (Value.int IntKind.i64 (g158_0 x0))), SV.one (T.lit (Value.int IntKind.i64 (g158_1 x0)))], []), bytesOk x0)
  | _, _ => none
theorem t83 (args : List SV) (hp : List Blk) (r : SV × List Blk) (h : q83 args hp = some (r, true)) : R 83 args hp = some r := by
  unfold q83 at h
  split at h
  · rename_i x0; exact R_fn at83 0 (fnT_run Q158_ok (okTrans (e83 x0) (k83 x0) h))
  · simp at h
noncomputable def Q83 : Qt := qcons 83 q83 Q158
theorem Q83_ok : QOk R Q83 := qcons_ok t83 Q158_ok
/-! impl.ReverseBits -/
def s84_0 (v0 : Int) (v1 : Int) (v2 : Int) (v3 : Int) : St := ⟨[(1, .one (.lit (.int .i64 v0))), (6, .one (.lit (.int .i64 v1))), (12, .one (.lit (.int .i64 v2))), (13, .one (.lit (.int .i64 v3)))], []⟩
def x84_0 (v0 : Int) (v1 : Int) (v2 : Int) (v3 : Int) : List (Ex × Bool × Tr) := [(Ex.brk (0 : Nat), !decide (v3 < v2), Tr.leaf { sl := [((1 : Nat), SV.one (T.lit (Value.int IntKind.i64 v0))), ((6 : Nat), SV.one (T.lit (Value.int IntKind.i64 v1))), ((12 : Nat), SV.one (T.lit (Value.int IntKind.i64 v2))), ((13 : Nat), SV.one (T.lit (Value.int IntKind.i64 v3))), ((14 : Nat), SV.one (T.lit (Value.bool (decide (v3 < v2)))))], hp := [] })]
def u84_0 (v0 : Int) (v1 : Int) (v2 : Int) (v3 : Int) : St := { sl := [((1 : Nat), SV.one (T.lit (Value.int IntKind.i64 (Int.fdiv v0 (2 : Int))))), ((6 : Nat), SV.one (T.lit (Value.int IntKind.i64 (IntKind.wrap IntKind.i64 (↑(BitVec.toNat (BitVec.ofInt (64 : Nat) (IntKind.wrap IntKind.i64 (v1 * (2 : Int))) ||| BitVec.ofInt (64 : Nat) (IntKind.wrap IntKind.i64 (↑(BitVec.toNat (BitVec.ofInt (64 : Nat) v0 &&& BitVec.ofInt (64 : Nat) (1 : Int))) : Int)))) : Int))))), ((12 : Nat), SV.one (T.lit (Value.int IntKind.i64 v2))), ((13 : Nat), SV.one (T.lit (Value.int IntKind.i64 (IntKind.wrap IntKind.i64 (v3 + (1 : Int))))))], hp := [] }
def y84_0 (v0 : Int) (v1 : Int) (v2 : Int) (v3 : Int) : Bool := true
def z84_0 (v0 : Int) (v1 : Int) (v2 : Int) (v3 : Int) : Bool := ((!decide (v3 < v2)) || false)
def L84_0 : Nat → Int → Int → Int → Int → Option (Int × Int × Int × Int)
  | 0, _, _, _, _ => none
  | k + 1, v0, v1, v2, v3 => bif y84_0 v0 v1 v2 v3 then bif z84_0 v0 v1 v2 v3 then some (v0, v1, v2, v3) else L84_0 k (Int.fdiv v0 (2 : Int)) (IntKind.wrap IntKind.i64 (↑(BitVec.toNat (BitVec.ofInt (64 : Nat) (IntKind.wrap IntKind.i64 (v1 * (2 : Int))) ||| BitVec.ofInt (64 : Nat) (IntKind.wrap IntKind.i64 (↑(BitVec.toNat (BitVec.ofInt (64 : Nat) v0 &&& BitVec.ofInt (64 : Nat) (1 : Int))) : Int)))) : Int)) (v2) (IntKind.wrap IntKind.i64 (v3 + (1 : Int))) else none
theorem hb84_0 (n : Nat) (v0 : Int) (v1 : Int) (v2 : Int) (v3 : Int) : Go.Zq.evt Q83 [] [] lqN 0 n F84b0 (s84_0 v0 v1 v2 v3) = some (⟨x84_0 v0 v1 v2 v3, some (.leaf (u84_0 v0 v1 v2 v3))⟩, y84_0 v0 v1 v2 v3) := by kernel_rfl
theorem hc84_0 (v0 : Int) (v1 : Int) (v2 : Int) (v3 : Int) : canonS 0 [1, 6, 12, 13] (u84_0 v0 v1 v2 v3) = some (s84_0 (Int.fdiv v0 (2 : Int)) (IntKind.wrap IntKind.i64 (↑(BitVec.toNat (BitVec.ofInt (64 : Nat) (IntKind.wrap IntKind.i64 (v1 * (2 : Int))) ||| BitVec.ofInt (64 : Nat) (IntKind.wrap IntKind.i64 (↑(BitVec.toNat (BitVec.ofInt (64 : Nat) v0 &&& BitVec.ofInt (64 : Nat) (1 : Int))) : Int)))) : Int)) (v2) (IntKind.wrap IntKind.i64 (v3 + (1 : Int))), true) := by
  kernel_rfl
def w84_0_0 (n : Nat) (v0 : Int) (v1 : Int) (v2 : Int) (v3 : Int) : Int := ((L84_0 n v0 v1 v2 v3).getD (default, default, default, default)).1
def w84_0_1 (n : Nat) (v0 : Int) (v1 : Int) (v2 : Int) (v3 : Int) : Int := ((L84_0 n v0 v1 v2 v3).getD (default, default, default, default)).2.1
def w84_0_2 (n : Nat) (v0 : Int) (v1 : Int) (v2 : Int) (v3 : Int) : Int := ((L84_0 n v0 v1 v2 v3).getD (default, default, default, default)).2.2.1
def w84_0_3 (n : Nat) (v0 : Int) (v1 : Int) (v2 : Int) (v3 : Int) : Int := ((L84_0 n v0 v1 v2 v3).getD (default, default, default, default)).2.2.2
theorem li84_0 (n : Nat) : ∀ (v0 : Int) (v1 : Int) (v2 : Int) (v3 : Int) (w : Int × Int × Int × Int), L84_0 n v0 v1 v2 v3 = some w → w.2.2.1 = v2 := by
  induction n with
  | zero => intro v0 v1 v2 v3 w h; simp [L84_0] at h
  | succ k ih =>
    intro v0 v1 v2 v3 w h
    unfold L84_0 at h
    cases hy : y84_0 v0 v1 v2 v3
    · rw [hy] at h; simp at h
    · rw [hy, cond_true] at h
      cases hz : z84_0 v0 v1 v2 v3
      · rw [hz, cond_false] at h
        exact ih _ _ _ _ w h
      · rw [hz, cond_true] at h
        obtain rfl := Option.some.inj h
        simp only [and_self]
def lq84_0 (n : Nat) (σ : St) : Option (O × Bool) :=
  match canonS 0 [1, 6, 12, 13] σ with
  | some (⟨[(1, .one (.lit (.int .i64 v0))), (6, .one (.lit (.int .i64 v1))), (12, .one (.lit (.int .i64 v2))), (13, .one (.lit (.int .i64 v3)))], []⟩, c) => some (⟨x84_0 (w84_0_0 n v0 v1 v2 v3) (w84_0_1 n v0 v1 v2 v3) v2 (w84_0_3 n v0 v1 v2 v3), none⟩, (c) && (L84_0 n v0 v1 v2 v3).isSome)
  | _ => none
theorem lt84_0 (n : Nat) : Tells (lq84_0 n) (evc R 0 n (.loop [1, 6, 12, 13] F84b0)) := fun σ σr o h hl => by
  unfold lq84_0 at h
  split at h
  · rename_i v0 v1 v2 v3 c hs
    have hsome : (L84_0 n v0 v1 v2 v3).isSome = true := by
      have := congrArg (Option.map (·.2)) h
      simp only [Option.map_some, Option.some.injEq, Bool.and_eq_true] at this
      exact this.2
    obtain ⟨w, hw⟩ := Option.isSome_iff_exists.1 hsome
    have hi := li84_0 n v0 v1 v2 v3 w hw
    have ex : x84_0 (w84_0_0 n v0 v1 v2 v3) (w84_0_1 n v0 v1 v2 v3) v2 (w84_0_3 n v0 v1 v2 v3) = x84_0 (((L84_0 n v0 v1 v2 v3).getD (default, default, default, default)).1) (((L84_0 n v0 v1 v2 v3).getD (default, default, default, default)).2.1) (((L84_0 n v0 v1 v2 v3).getD (default, default, default, default)).2.2.1) (((L84_0 n v0 v1 v2 v3).getD (default, default, default, default)).2.2.2) := by simp only [w84_0_0, w84_0_1, w84_0_3, hw, Option.getD_some, hi]
    rw [ex] at h
    exact lq_tells (V := Int × Int × Int × Int) (f := Go.Zq.evt Q83 [] [] lqN 0 n F84b0) (st := fun v => s84_0 v.1 v.2.1 v.2.2.1 v.2.2.2) (ν := fun v => u84_0 v.1 v.2.1 v.2.2.1 v.2.2.2) (ob := (fun v => ⟨x84_0 v.1 v.2.1 v.2.2.1 v.2.2.2, some (.leaf (u84_0 v.1 v.2.1 v.2.2.1 v.2.2.2))⟩)) (okb := fun v => y84_0 v.1 v.2.1 v.2.2.1 v.2.2.2) (next := fun v => (fun v0 v1 v2 v3 => (Int.fdiv v0 (2 : Int), IntKind.wrap IntKind.i64 (↑(BitVec.toNat (BitVec.ofInt (64 : Nat) (IntKind.wrap IntKind.i64 (v1 * (2 : Int))) ||| BitVec.ofInt (64 : Nat) (IntKind.wrap IntKind.i64 (↑(BitVec.toNat (BitVec.ofInt (64 : Nat) v0 &&& BitVec.ofInt (64 : Nat) (1 : Int))) : Int)))) : Int), v2, IntKind.wrap IntKind.i64 (v3 + (1 : Int)))) v.1 v.2.1 v.2.2.1 v.2.2.2)
      (evt_tells Q83_ok (by simp only [F84, F84b0, Loops, and_self, and_true])) (fun v => hb84_0 n v.1 v.2.1 v.2.2.1 v.2.2.2) (fun _ => rfl) (fun v _ _ => hc84_0 v.1 v.2.1 v.2.2.1 v.2.2.2) (L := fun k v => L84_0 k v.1 v.2.1 v.2.2.1 v.2.2.2) (fun _ => rfl) (fun _ _ => rfl) (v := (v0, v1, v2, v3)) (d := (default, default, default, default)) hs h hl
  · simp at h
def lq84x0 (n : Nat) : Lq := fun live σ => if live = [1, 6, 12, 13] then lq84_0 n σ else none
def g84_0 (x0 : Int) (x1 : Int) : Int := bif !g151_0 x0 x1 then (0 : Int) else w84_0_1 (70 : Nat) x1 (0 : Int) (IntKind.wrap IntKind.i64 ((8 : Int) * x0)) (0 : Int)
def r84_1 (x0 : Int) (x1 : Int) : Bool := bif !g151_0 x0 x1 then false else true
theorem c84_1 (x0 : Int) (x1 : Int) : r84_1 x0 x1 = g151_0 x0 x1 := by simp only [r84_1, Bool.cond_self, bif_tf, bif_ft, Bool.not_not, List.drop_zero, List.take_length]
theorem k84 (x0 : Int) (x1 : Int) (h : (Option.isSome (L84_0 (70 : Nat) x1 (0 : Int) (IntKind.wrap IntKind.i64 ((8 : Int) * x0)) (0 : Int)) || !g151_0 x0 x1) = true) : ((Option.isSome (L84_0 (70 : Nat) x1 (0 : Int) (IntKind.wrap IntKind.i64 ((8 : Int) * x0)) (0 : Int)) && true || !g151_0 x0 x1) && true) = true := by
  have h0 := h
  simp only [h0, Bool.and_true, Bool.true_and, Bool.or_true, Bool.true_or, Bool.or_false, Bool.false_or, Bool.and_self, Bool.cond_self, Bool.not_true, Bool.not_false, Bool.false_and, Bool.and_false, u64_dec, Nat.zero_add, Nat.le_refl, decide_true, eq_self, List.drop_zero, List.take_length, Bool.not_not, bif_tf, bif_ft]
theorem d84 (x0 : Int) (x1 : Int) : fnL Q83 [] [] (lq84x0 70) 70 F84 [.one (.lit (.int .i64 x0)), .one (.lit (.int .i64 x1))] [] = some ((SV.tup [SV.one (T.lit (Value.int IntKind.i64 (g84_0 x0 x1))), SV.one (T.lit (Value.bool (r84_1 x0 x1)))], []), (Option.isSome (L84_0 (70 : Nat) x1 (0 : Int) (IntKind.wrap IntKind.i64 ((8 : Int) * x0)) (0 : Int)) && true || !g151_0 x0 x1) && true) := by kernel_rfl
theorem e84 (x0 : Int) (x1 : Int) : fnL Q83 [] [] (lq84x0 70) 70 F84 [.one (.lit (.int .i64 x0)), .one (.lit (.int .i64 x1))] [] = some ((SV.tup [SV.one (T.lit (Value.int IntKind.i64 (g84_0 x0 x1))), SV.one (T.lit (Value.bool (g151_0 x0 x1)))], []), (Option.isSome (L84_0 (70 : Nat) x1 (0 : Int) (IntKind.wrap IntKind.i64 ((8 : Int) * x0)) (0 : Int)) && true || !g151_0 x0 x1) && true) := by rw [d84, c84_1]
def q84 : List SV → List Blk → Option ((SV × List Blk) × Bool)
  | [.one (.lit (.int .i64 x0)), .one (.lit (.int .i64 x1))], [] => some ((SV.tup [SV.one (T.lit (Value.int IntKind.i64 (g84_0 x0 x1))), SV.one (T.lit (Value.bool (g151_0 x0 x1)))], []), Option.isSome (L84_0 (70 : Nat) x1 (0 : Int) (IntKind.wrap IntKind.i64 ((8 : Int) * x0)) (0 : Int)) || !g151_0 x0 x1)
  | _, _ => none
theorem t84 (args : List SV) (hp : List Blk) (r : SV × List Blk) (h : q84 args hp = some (r, true)) : R 84 args hp = some r := by
  unfold q84 at h
  split at h
  · rename_i x0 x1; exact R_fn at84 70 (fnL_run Q83_ok (by simp only [F84, F84b0, Loops, true_and, and_true]; first | trivial | (repeat' apply And.intro) <;> first | trivial  | exact fun σ σr o h hl => lt84_0 _ σ σr o h hl) (okTrans (e84 x0 x1) (k84 x0 x1) h))
  · simp at h
noncomputable def Q84 : Qt := qcons 84 q84 Q83
theorem Q84_ok : QOk R Q84 := qcons_ok t84 Q83_ok
/-! spec.ReverseBits -/
def s85_0 (v0 : Int) (v1 : Int) (v2 : Int) (v3 : Int) : St := ⟨[(0, .one (.lit (.int .i64 v0))), (1, .one (.lit (.int .i64 v1))), (6, .one (.lit (.int .i64 v2))), (7, .one (.lit (.int .i64 v3)))], []⟩
def x85_0 (v0 : Int) (v1 : Int) (v2 : Int) (v3 : Int) : List (Ex × Bool × Tr) := [(Ex.brk (0 : Nat), !decide (v3 < IntKind.wrap IntKind.i64 ((8 : Int) * v0)), Tr.leaf { sl := [((0 : Nat), SV.one (T.lit (Value.int IntKind.i64 v0))), ((1 : Nat), SV.one (T.lit (Value.int IntKind.i64 v1))), ((6 : Nat), SV.one (T.lit (Value.int IntKind.i64 v2))), ((7 : Nat), SV.one (T.lit (Value.int IntKind.i64 v3))), ((15 : Nat), SV.one (T.lit (Value.bool (decide (v3 < IntKind.wrap IntKind.i64 ((8 : Int) * v0))))))], hp := [] })]
def u85_0 (v0 : Int) (v1 : Int) (v2 : Int) (v3 : Int) : St := { sl := [((0 : Nat), SV.one (T.lit (Value.int IntKind.i64 v0))), ((1 : Nat), SV.one (T.lit (Value.int IntKind.i64 v1))), ((6 : Nat), SV.one (T.lit (Value.int IntKind.i64 (IntKind.wrap IntKind.i64 (↑(BitVec.toNat (BitVec.ofInt (64 : Nat) (IntKind.wrap IntKind.i64 (v2 * (2 : Int))) ||| BitVec.ofInt (64 : Nat) (IntKind.wrap IntKind.i64 (↑(BitVec.toNat (BitVec.ofInt (64 : Nat) (Int.fdiv v1 ((2 : Int) ^ min (Int.toNat (IntKind.wrap IntKind.u64 v3)) (64 : Nat))) &&& BitVec.ofInt (64 : Nat) (1 : Int))) : Int)))) : Int))))), ((7 : Nat), SV.one (T.lit (Value.int IntKind.i64 (IntKind.wrap IntKind.i64 (v3 + (1 : Int))))))], hp := [] }
def y85_0 (v0 : Int) (v1 : Int) (v2 : Int) (v3 : Int) : Bool := true
theorem hy85_0 (v0 : Int) (v1 : Int) (v2 : Int) (v3 : Int) : (decide ((0 : Int) ≤ IntKind.wrap IntKind.u64 v3) && true && true || !decide (v3 < IntKind.wrap IntKind.i64 ((8 : Int) * v0))) = y85_0 v0 v1 v2 v3 := by simp only [y85_0, List.drop_zero, List.take_length, Nat.zero_add, Nat.le_refl, Int.le_refl, decide_true, eq_self, ri_len, List.length_cons, List.length_nil, List.length_append, Nat.reduceAdd, u64_dec, Bool.and_self, Bool.true_and, Bool.and_true, Bool.or_true, Bool.true_or, Bool.or_false, Bool.false_or, Bool.cond_self, Bool.not_true, Bool.not_false, Bool.not_not, bif_tf, bif_ft]
def z85_0 (v0 : Int) (v1 : Int) (v2 : Int) (v3 : Int) : Bool := ((!decide (v3 < IntKind.wrap IntKind.i64 ((8 : Int) * v0))) || false)
def L85_0 : Nat → Int → Int → Int → Int → Option (Int × Int × Int × Int)
  | 0, _, _, _, _ => none
  | k + 1, v0, v1, v2, v3 => bif y85_0 v0 v1 v2 v3 then bif z85_0 v0 v1 v2 v3 then some (v0, v1, v2, v3) else L85_0 k (v0) (v1) (IntKind.wrap IntKind.i64 (↑(BitVec.toNat (BitVec.ofInt (64 : Nat) (IntKind.wrap IntKind.i64 (v2 * (2 : Int))) ||| BitVec.ofInt (64 : Nat) (IntKind.wrap IntKind.i64 (↑(BitVec.toNat (BitVec.ofInt (64 : Nat) (Int.fdiv v1 ((2 : Int) ^ min (Int.toNat (IntKind.wrap IntKind.u64 v3)) (64 : Nat))) &&& BitVec.ofInt (64 : Nat) (1 : Int))) : Int)))) : Int)) (IntKind.wrap IntKind.i64 (v3 + (1 : Int))) else none
theorem hb85_0 (n : Nat) (v0 : Int) (v1 : Int) (v2 : Int) (v3 : Int) : Go.Zq.evt Q84 [] [] lqN 0 n F85b0 (s85_0 v0 v1 v2 v3) = some (⟨x85_0 v0 v1 v2 v3, some (.leaf (u85_0 v0 v1 v2 v3))⟩, y85_0 v0 v1 v2 v3) := by
  rw [← hy85_0 v0 v1 v2 v3]
  kernel_rfl
theorem hc85_0 (v0 : Int) (v1 : Int) (v2 : Int) (v3 : Int) : canonS 0 [0, 1, 6, 7] (u85_0 v0 v1 v2 v3) = some (s85_0 (v0) (v1) (IntKind.wrap IntKind.i64 (↑(BitVec.toNat (BitVec.ofInt (64 : Nat) (IntKind.wrap IntKind.i64 (v2 * (2 : Int))) ||| BitVec.ofInt (64 : Nat) (IntKind.wrap IntKind.i64 (↑(BitVec.toNat (BitVec.ofInt (64 : Nat) (Int.fdiv v1 ((2 : Int) ^ min (Int.toNat (IntKind.wrap IntKind.u64 v3)) (64 : Nat))) &&& BitVec.ofInt (64 : Nat) (1 : Int))) : Int)))) : Int)) (IntKind.wrap IntKind.i64 (v3 + (1 : Int))), true) := by
  kernel_rfl
def w85_0_0 (n : Nat) (v0 : Int) (v1 : Int) (v2 : Int) (v3 : Int) : Int := ((L85_0 n v0 v1 v2 v3).getD (default, default, default, default)).1
def w85_0_1 (n : Nat) (v0 : Int) (v1 : Int) (v2 : Int) (v3 : Int) : Int := ((L85_0 n v0 v1 v2 v3).getD (default, default, default, default)).2.1
def w85_0_2 (n : Nat) (v0 : Int) (v1 : Int) (v2 : Int) (v3 : Int) : Int := ((L85_0 n v0 v1 v2 v3).getD (default, default, default, default)).2.2.1
def w85_0_3 (n : Nat) (v0 : Int) (v1 : Int) (v2 : Int) (v3 : Int) : Int := ((L85_0 n v0 v1 v2 v3).getD (default, default, default, default)).2.2.2
theorem li85_0 (n : Nat) : ∀ (v0 : Int) (v1 : Int) (v2 : Int) (v3 : Int) (w : Int × Int × Int × Int), L85_0 n v0 v1 v2 v3 = some w → w.1 = v0 ∧ w.2.1 = v1 := by
  induction n with
  | zero => intro v0 v1 v2 v3 w h; simp [L85_0] at h
  | succ k ih =>
    intro v0 v1 v2 v3 w h
    unfold L85_0 at h
    cases hy : y85_0 v0 v1 v2 v3
    · rw [hy] at h; simp at h
    · rw [hy, cond_true] at h
      cases hz : z85_0 v0 v1 v2 v3
      · rw [hz, cond_false] at h
        exact ih _ _ _ _ w h
      · rw [hz, cond_true] at h
        obtain rfl := Option.some.inj h
        simp only [and_self]
def lq85_0 (n : Nat) (σ : St) : Option (O × Bool) :=
  match canonS 0 [0, 1, 6, 7] σ with
  | some (⟨[(0, .one (.lit (.int .i64 v0))), (1, .one (.lit (.int .i64 v1))), (6, .one (.lit (.int .i64 v2))), (7, .one (.lit (.int .i64 v3)))], []⟩, c) => some (⟨x85_0 v0 v1 (w85_0_2 n v0 v1 v2 v3) (w85_0_3 n v0 v1 v2 v3), none⟩, (c) && (L85_0 n v0 v1 v2 v3).isSome)
  | _ => none
theorem lt85_0 (n : Nat) : Tells (lq85_0 n) (evc R 0 n (.loop [0, 1, 6, 7] F85b0)) := fun σ σr o h hl => by
  unfold lq85_0 at h
  split at h
  · rename_i v0 v1 v2 v3 c hs
    have hsome : (L85_0 n v0 v1 v2 v3).isSome = true := by
      have := congrArg (Option.map (·.2)) h
      simp only [Option.map_some, Option.some.injEq, Bool.and_eq_true] at this
      exact this.2
    obtain ⟨w, hw⟩ := Option.isSome_iff_exists.1 hsome
    have hi := li85_0 n v0 v1 v2 v3 w hw
    have ex : x85_0 v0 v1 (w85_0_2 n v0 v1 v2 v3) (w85_0_3 n v0 v1 v2 v3) = x85_0 (((L85_0 n v0 v1 v2 v3).getD (default, default, default, default)).1) (((L85_0 n v0 v1 v2 v3).getD (default, default, default, default)).2.1) (((L85_0 n v0 v1 v2 v3).getD (default, default, default, default)).2.2.1) (((L85_0 n v0 v1 v2 v3).getD (default, default, default, default)).2.2.2) := by simp only [w85_0_2, w85_0_3, hw, Option.getD_some, hi]
    rw [ex] at h
    exact lq_tells (V := Int × Int × Int × Int) (f := Go.Zq.evt Q84 [] [] lqN 0 n F85b0) (st := fun v => s85_0 v.1 v.2.1 v.2.2.1 v.2.2.2) (ν := fun v => u85_0 v.1 v.2.1 v.2.2.1 v.2.2.2) (ob := (fun v => ⟨x85_0 v.1 v.2.1 v.2.2.1 v.2.2.2, some (.leaf (u85_0 v.1 v.2.1 v.2.2.1 v.2.2.2))⟩)) (okb := fun v => y85_0 v.1 v.2.1 v.2.2.1 v.2.2.2) (next := fun v => (fun v0 v1 v2 v3 => (v0, v1, IntKind.wrap IntKind.i64 (↑(BitVec.toNat (BitVec.ofInt (64 : Nat) (IntKind.wrap IntKind.i64 (v2 * (2 : Int))) ||| BitVec.ofInt (64 : Nat) (IntKind.wrap IntKind.i64 (↑(BitVec.toNat (BitVec.ofInt (64 : Nat) (Int.fdiv v1 ((2 : Int) ^ min (Int.toNat (IntKind.wrap IntKind.u64 v3)) (64 : Nat))) &&& BitVec.ofInt (64 : Nat) (1 : Int))) : Int)))) : Int), IntKind.wrap IntKind.i64 (v3 + (1 : Int)))) v.1 v.2.1 v.2.2.1 v.2.2.2)
      (evt_tells Q84_ok (by simp only [F85, F85b0, Loops, and_self, and_true])) (fun v => hb85_0 n v.1 v.2.1 v.2.2.1 v.2.2.2) (fun _ => rfl) (fun v _ _ => hc85_0 v.1 v.2.1 v.2.2.1 v.2.2.2) (L := fun k v => L85_0 k v.1 v.2.1 v.2.2.1 v.2.2.2) (fun _ => rfl) (fun _ _ => rfl) (v := (v0, v1, v2, v3)) (d := (default, default, default, default)) hs h hl
  · simp at h
def lq85x0 (n : Nat) : Lq := fun live σ => if live = [0, 1, 6, 7] then lq85_0 n σ else none
def g85_0 (x0 : Int) (x1 : Int) : Int := bif !g181_0 x0 x1 then (0 : Int) else w85_0_2 (70 : Nat) x0 x1 (0 : Int) (0 : Int)
def r85_1 (x0 : Int) (x1 : Int) : Bool := bif !g181_0 x0 x1 then false else true
theorem c85_1 (x0 : Int) (x1 : Int) : r85_1 x0 x1 = g181_0 x0 x1 := by simp only [r85_1, Bool.cond_self, bif_tf, bif_ft, Bool.not_not, List.drop_zero, List.take_length]
theorem k85 (x0 : Int) (x1 : Int) (h : (Option.isSome (L85_0 (70 : Nat) x0 x1 (0 : Int) (0 : Int)) || !g181_0 x0 x1) = true) : ((Option.isSome (L85_0 (70 : Nat) x0 x1 (0 : Int) (0 : Int)) && true || !g181_0 x0 x1) && true) = true := by
  have h0 := h
  simp only [h0, Bool.and_true, Bool.true_and, Bool.or_true, Bool.true_or, Bool.or_false, Bool.false_or, Bool.and_self, Bool.cond_self, Bool.not_true, Bool.not_false, Bool.false_and, Bool.and_false, u64_dec, Nat.zero_add, Nat.le_refl, decide_true, eq_self, List.drop_zero, List.take_length, Bool.not_not, bif_tf, bif_ft]
theorem d85 (x0 : Int) (x1 : Int) : fnL Q84 [] [] (lq85x0 70) 70 F85 [.one (.lit (.int .i64 x0)), .one (.lit (.int .i64 x1))] [] = some ((SV.tup [SV.one (T.lit (Value.int IntKind.i64 (g85_0 x0 x1))), SV.one (T.lit (Value.bool (r85_1 x0 x1)))], []), (Option.isSome (L85_0 (70 : Nat) x0 x1 (0 : Int) (0 : Int)) && true || !g181_0 x0 x1) && true) := by kernel_rfl
theorem e85 (x0 : Int) (x1 : Int) : fnL Q84 [] [] (lq85x0 70) 70 F85 [.one (.lit (.int .i64 x0)), .one (.lit (.int .i64 x1))] [] = some ((SV.tup [SV.one (T.lit (Value.int IntKind.i64 (g85_0 x0 x1))), SV.one (T.lit (Value.bool (g181_0 x0 x1)))], []), (Option.isSome (L85_0 (70 : Nat) x0 x1 (0 : Int) (0 : Int)) && true || !g181_0 x0 x1) && true) := by rw [d85, c85_1]
def q85 : List SV → List Blk → Option ((SV × List Blk) × Bool)
  | [.one (.lit (.int .i64 x0)), .one (.lit (.int .i64 x1))], [] => some ((SV.tup [SV.one (T.lit (Value.int IntKind.i64 (g85_0 x0 x1))), SV.one (T.lit (Value.bool (g181_0 x0 x1)))], []), Option.isSome (L85_0 (70 : Nat) x0 x1 (0 : Int) (0 : Int)) || !g181_0 x0 x1)
  | _, _ => none
theorem t85 (args : List SV) (hp : List Blk) (r : SV × List Blk) (h : q85 args hp = some (r, true)) : R 85 args hp = some r := by
  unfold q85 at h
  split at h
  · rename_i x0 x1; exact R_fn at85 70 (fnL_run Q84_ok (by simp only [F85, F85b0, Loops, true_and, and_true]; first | trivial | (repeat' apply And.intro) <;> first | trivial  | exact fun σ σr o h hl => lt85_0 _ σ σr o h hl) (okTrans (e85 x0 x1) (k85 x0 x1) h))
  · simp at h
noncomputable def Q85 : Qt := qcons 85 q85 Q84
theorem Q85_ok : QOk R Q85 := qcons_ok t85 Q84_ok
/-! spec.CountOnes -/
def s86_0 (v0 : Int) (v1 : Int) : St := ⟨[(1, .one (.lit (.int .i64 v0))), (6, .one (.lit (.int .i64 v1)))], []⟩
def x86_0 (v0 : Int) (v1 : Int) : List (Ex × Bool × Tr) := [(Ex.brk (0 : Nat), !decide (v0 > (0 : Int)), Tr.leaf { sl := [((1 : Nat), SV.one (T.lit (Value.int IntKind.i64 v0))), ((6 : Nat), SV.one (T.lit (Value.int IntKind.i64 v1))), ((12 : Nat), SV.one (T.lit (Value.bool (decide (v0 > (0 : Int))))))], hp := [] })]
def u86_0 (v0 : Int) (v1 : Int) : St := { sl := [((1 : Nat), SV.one (T.lit (Value.int IntKind.i64 (Int.fdiv v0 (2 : Int))))), ((6 : Nat), SV.one (T.lit (Value.int IntKind.i64 (IntKind.wrap IntKind.i64 (v1 + IntKind.wrap IntKind.i64 (↑(BitVec.toNat (BitVec.ofInt (64 : Nat) v0 &&& BitVec.ofInt (64 : Nat) (1 : Int))) : Int))))))], hp := [] }
def y86_0 (v0 : Int) (v1 : Int) : Bool := true
def z86_0 (v0 : Int) (v1 : Int) : Bool := ((!decide (v0 > (0 : Int))) || false)
def L86_0 : Nat → Int → Int → Option (Int × Int)
  | 0, _, _ => none
  | k + 1, v0, v1 => bif y86_0 v0 v1 then bif z86_0 v0 v1 then some (v0, v1) else L86_0 k (Int.fdiv v0 (2 : Int)) (IntKind.wrap IntKind.i64 (v1 + IntKind.wrap IntKind.i64 (↑(BitVec.toNat (BitVec.ofInt (64 : Nat) v0 &&& BitVec.ofInt (64 : Nat) (1 : Int))) : Int))) else none
theorem hb86_0 (n : Nat) (v0 : Int) (v1 : Int) : Go.Zq.evt Q85 [] [] lqN 0 n F86b0 (s86_0 v0 v1) = some (⟨x86_0 v0 v1, some (.leaf (u86_0 v0 v1))⟩, y86_0 v0 v1) := by kernel_rfl
theorem hc86_0 (v0 : Int) (v1 : Int) : canonS 0 [1, 6] (u86_0 v0 v1) = some (s86_0 (Int.fdiv v0 (2 : Int)) (IntKind.wrap IntKind.i64 (v1 + IntKind.wrap IntKind.i64 (↑(BitVec.toNat (BitVec.ofInt (64 : Nat) v0 &&& BitVec.ofInt (64 : Nat) (1 : Int))) : Int))), true) := by
  kernel_rfl
def w86_0_0 (n : Nat) (v0 : Int) (v1 : Int) : Int := ((L86_0 n v0 v1).getD (default, default)).1
def w86_0_1 (n : Nat) (v0 : Int) (v1 : Int) : Int := ((L86_0 n v0 v1).getD (default, default)).2
def lq86_0 (n : Nat) (σ : St) : Option (O × Bool) :=
  match canonS 0 [1, 6] σ with
  | some (⟨[(1, .one (.lit (.int .i64 v0))), (6, .one (.lit (.int .i64 v1)))], []⟩, c) => some (⟨x86_0 (w86_0_0 n v0 v1) (w86_0_1 n v0 v1), none⟩, (c) && (L86_0 n v0 v1).isSome)
  | _ => none
theorem lt86_0 (n : Nat) : Tells (lq86_0 n) (evc R 0 n (.loop [1, 6] F86b0)) := fun σ σr o h hl => by
  unfold lq86_0 at h
  split at h
  · rename_i v0 v1 c hs
    exact lq_tells (V := Int × Int) (f := Go.Zq.evt Q85 [] [] lqN 0 n F86b0) (st := fun v => s86_0 v.1 v.2) (ν := fun v => u86_0 v.1 v.2) (ob := (fun v => ⟨x86_0 v.1 v.2, some (.leaf (u86_0 v.1 v.2))⟩)) (okb := fun v => y86_0 v.1 v.2) (next := fun v => (fun v0 v1 => (Int.fdiv v0 (2 : Int), IntKind.wrap IntKind.i64 (v1 + IntKind.wrap IntKind.i64 (↑(BitVec.toNat (BitVec.ofInt (64 : Nat) v0 &&& BitVec.ofInt (64 : Nat) (1 : Int))) : Int)))) v.1 v.2)
      (evt_tells Q85_ok (by simp only [F86, F86b0, Loops, and_self, and_true])) (fun v => hb86_0 n v.1 v.2) (fun _ => rfl) (fun v _ _ => hc86_0 v.1 v.2) (L := fun k v => L86_0 k v.1 v.2) (fun _ => rfl) (fun _ _ => rfl) (v := (v0, v1)) (d := (default, default)) hs h hl
  · simp at h
def lq86x0 (n : Nat) : Lq := fun live σ => if live = [1, 6] then lq86_0 n σ else none
def g86_0 (x0 : Int) (x1 : Int) : Int := bif !g181_0 x0 x1 then (0 : Int) else w86_0_1 (70 : Nat) x1 (0 : Int)
def r86_1 (x0 : Int) (x1 : Int) : Bool := bif !g181_0 x0 x1 then false else true
theorem c86_1 (x0 : Int) (x1 : Int) : r86_1 x0 x1 = g181_0 x0 x1 := by simp only [r86_1, Bool.cond_self, bif_tf, bif_ft, Bool.not_not, List.drop_zero, List.take_length]
theorem k86 (x0 : Int) (x1 : Int) (h : (Option.isSome (L86_0 (70 : Nat) x1 (0 : Int)) || !g181_0 x0 x1) = true) : ((Option.isSome (L86_0 (70 : Nat) x1 (0 : Int)) && true || !g181_0 x0 x1) && true) = true := by
  have h0 := h
  simp only [h0, Bool.and_true, Bool.true_and, Bool.or_true, Bool.true_or, Bool.or_false, Bool.false_or, Bool.and_self, Bool.cond_self, Bool.not_true, Bool.not_false, Bool.false_and, Bool.and_false, u64_dec, Nat.zero_add, Nat.le_refl, decide_true, eq_self, List.drop_zero, List.take_length, Bool.not_not, bif_tf, bif_ft]
theorem d86 (x0 : Int) (x1 : Int) : fnL Q85 [] [] (lq86x0 70) 70 F86 [.one (.lit (.int .i64 x0)), .one (.lit (.int .i64 x1))] [] = some ((SV.tup [SV.one (T.lit (Value.int IntKind.i64 (g86_0 x0 x1))), SV.one (T.lit (Value.bool (r86_1 x0 x1)))], []), (Option.isSome (L86_0 (70 : Nat) x1 (0 : Int)) && true || !g181_0 x0 x1) && true) := by kernel_rfl
theorem e86 (x0 : Int) (x1 : Int) : fnL Q85 [] [] (lq86x0 70) 70 F86 [.one (.lit (.int .i64 x0)), .one (.lit (.int .i64 x1))] [] = some ((SV.tup [SV.one (T.lit (Value.int IntKind.i64 (g86_0 x0 x1))), SV.one (T.lit (Value.bool (g181_0 x0 x1)))], []), (Option.isSome (L86_0 (70 : Nat) x1 (0 : Int)) && true || !g181_0 x0 x1) && true) := by rw [d86, c86_1]
def q86 : List SV → List Blk → Option ((SV × List Blk) × Bool)
  | [.one (.lit (.int .i64 x0)), .one (.lit (.int .i64 x1))], [] => some ((SV.tup [SV.one (T.lit (Value.int IntKind.i64 (g86_0 x0 x1))), SV.one (T.lit (Value.bool (g181_0 x0 x1)))], []), Option.isSome (L86_0 (70 : Nat) x1 (0 : Int)) || !g181_0 x0 x1)
  | _, _ => none
theorem t86 (args : List SV) (hp : List Blk) (r : SV × List Blk) (h : q86 args hp = some (r, true)) : R 86 args hp = some r := by
  unfold q86 at h
  split at h
  · rename_i x0 x1; exact R_fn at86 70 (fnL_run Q85_ok (by simp only [F86, F86b0, Loops, true_and, and_true]; first | trivial | (repeat' apply And.intro) <;> first | trivial  | exact fun σ σr o h hl => lt86_0 _ σ σr o h hl) (okTrans (e86 x0 x1) (k86 x0 x1) h))
  · simp at h
noncomputable def Q86 : Qt := qcons 86 q86 Q85
theorem Q86_ok : QOk R Q86 := qcons_ok t86 Q85_ok
/-! laws.FnRotates -/
def g10_0 (x0 : List Row) (x1 : List Row) : Bool := bif decide (IntKind.wrap IntKind.i64 ((↑(List.length x0) : Int) + (↑(List.length x1) : Int)) > (1048576 : Int)) then true else bif bif bif !g81_1 (g80_0 x0) (g80_1 x0) (g80_2 x0) (g80_3 x0) (g80_4 x0) == g82_1 (g80_0 x0) (g80_1 x0) (g80_2 x0) (g80_3 x0) (g80_4 x0) then true else g81_0 (g80_0 x0) (g80_1 x0) (g80_2 x0) (g80_3 x0) (g80_4 x0) != g82_0 (g80_0 x0) (g80_1 x0) (g80_2 x0) (g80_3 x0) (g80_4 x0) then true else bif g81_1 (g80_0 x0) (g80_1 x0) (g80_2 x0) (g80_3 x0) (g80_4 x0) then g81_0 (g80_0 x0) (g80_1 x0) (g80_2 x0) (g80_3 x0) (g80_4 x0) != g80_3 x0 else false then false else bif (bif bif bif bif !g72_2 (g80_0 x0) (g80_1 x0) (g80_2 x0) (g80_3 x0) (g80_4 x0) then true else !g151_0 (g80_1 x0) (g80_3 x0) then true else !g151_0 (g80_1 x0) (g72_0 (g80_0 x0) (g80_1 x0) (g80_2 x0) (g80_3 x0) (g80_4 x0)) then true else bif decide (g80_0 x0 ≤ (5 : Int)) then g60_0 (g80_1 x0) (g80_3 x0) != g60_0 (g80_1 x0) (g72_0 (g80_0 x0) (g80_1 x0) (g80_2 x0) (g80_3 x0) (g80_4 x0)) else false then true else bif decide (g80_0 x0 > (5 : Int)) then IntKind.wrap IntKind.i64 (g60_0 (g80_1 x0) (g80_3 x0) + Int.fdiv (g80_2 x0) (16 : Int)) != IntKind.wrap IntKind.i64 (g60_0 (g80_1 x0) (g72_0 (g80_0 x0) (g80_1 x0) (g80_2 x0) (g80_3 x0) (g80_4 x0)) + Int.fdiv (g72_1 (g80_0 x0) (g80_1 x0) (g80_2 x0) (g80_3 x0) (g80_4 x0)) (16 : Int)) else false) && g81_1 (g80_0 x0) (g80_1 x0) (g80_2 x0) (g80_3 x0) (g80_4 x0) then false else bif (bif bif decide (g80_0 x0 ≤ (5 : Int)) then Int.tmod (g80_4 x0) (IntKind.wrap IntKind.i64 ((8 : Int) * g80_1 x0)) == (0 : Int) else false then g72_0 (g80_0 x0) (g80_1 x0) (g80_2 x0) (g80_3 x0) (g80_4 x0) != g80_3 x0 else false) && g81_1 (g80_0 x0) (g80_1 x0) (g80_2 x0) (g80_3 x0) (g80_4 x0) then false else bif bif bif bif !g151_0 (g158_0 x1) (g158_1 x1) == g181_0 (g158_0 x1) (g158_1 x1) then true else g84_0 (g158_0 x1) (g158_1 x1) != g85_0 (g158_0 x1) (g158_1 x1) then true else !g151_0 (g158_0 x1) (g158_1 x1) == g181_0 (g158_0 x1) (g158_1 x1) then true else g60_0 (g158_0 x1) (g158_1 x1) != g86_0 (g158_0 x1) (g158_1 x1) then false else bif g151_0 (g158_0 x1) (g158_1 x1) then bif bif bif g151_0 (g158_0 x1) (g84_0 (g158_0 x1) (g158_1 x1)) then g84_0 (g158_0 x1) (g84_0 (g158_0 x1) (g158_1 x1)) == g158_1 x1 else false then g151_0 (g158_0 x1) (g84_0 (g158_0 x1) (g158_1 x1)) else false then g60_0 (g158_0 x1) (g84_0 (g158_0 x1) (g158_1 x1)) == g60_0 (g158_0 x1) (g158_1 x1) else false else true
theorem e10 (x0 : List Row) (x1 : List Row) : fnT Q86 [] [] 0 F10 [.one (.imm true 1 x0), .one (.imm true 1 x1)] [] = some ((SV.one (T.lit (Value.bool (g10_0 x0 x1))), []), (bytesOk x0 && true && (((decide ((0 : Int) ≤ IntKind.wrap IntKind.i64 ((8 : Int) * g80_1 x0)) || !g80_4 x0 == (0 : Int)) && (Option.isSome (L173_0 (70 : Nat) (g80_0 x0) (g80_1 x0) (g80_2 x0) (g80_3 x0) (g80_4 x0) (0 : Int)) || g80_4 x0 == (0 : Int)) && true && ((decide ((0 : Int) ≤ IntKind.wrap IntKind.i64 ((8 : Int) * g80_1 x0)) || !g80_4 x0 == (0 : Int)) && (Option.isSome (L173_0 (70 : Nat) (IntKind.wrap IntKind.i64 (↑(BitVec.toNat (BitVec.ofInt (64 : Nat) (g80_0 x0) ^^^ BitVec.ofInt (64 : Nat) (1 : Int))) : Int)) (g80_1 x0) (g173_1 (g80_0 x0) (g80_1 x0) (g80_2 x0) (g80_3 x0) (g80_4 x0)) (g173_0 (g80_0 x0) (g80_1 x0) (g80_2 x0) (g80_3 x0) (g80_4 x0)) (g80_4 x0) (0 : Int)) || g80_4 x0 == (0 : Int)) && true && true) || bif bif !g172_0 (g80_0 x0) (g80_1 x0) (g80_2 x0) (g80_3 x0) then true else decide (g80_0 x0 < (4 : Int)) then true else !g142_0 (g80_4 x0) (0 : Int) (63 : Int)) && true && true && (((Option.isSome (L175_0 (70 : Nat) (g80_0 x0) (g80_1 x0) (g80_2 x0) (g80_3 x0) (g80_4 x0) (0 : Int)) || g80_4 x0 == (0 : Int)) && (Option.isSome (L175_0 (70 : Nat) (IntKind.wrap IntKind.i64 (↑(BitVec.toNat (BitVec.ofInt (64 : Nat) (g80_0 x0) ^^^ BitVec.ofInt (64 : Nat) (1 : Int))) : Int)) (g80_1 x0) (g175_1 (g80_0 x0) (g80_1 x0) (g80_2 x0) (g80_3 x0) (g80_4 x0)) (g175_0 (g80_0 x0) (g80_1 x0) (g80_2 x0) (g80_3 x0) (g80_4 x0)) (g80_4 x0) (0 : Int)) || g80_4 x0 == (0 : Int)) || bif bif !g174_0 (g80_0 x0) (g80_1 x0) (g80_2 x0) (g80_3 x0) then true else !g144_0 (g80_4 x0) (0 : Int) (63 : Int) then true else decide (g80_0 x0 < (4 : Int))) && true && ((((decide ((0 : Int) ≤ IntKind.wrap IntKind.i64 ((8 : Int) * g80_1 x0)) || !g80_4 x0 == (0 : Int)) && (Option.isSome (L173_0 (70 : Nat) (g80_0 x0) (g80_1 x0) (g80_2 x0) (g80_3 x0) (g80_4 x0) (0 : Int)) || g80_4 x0 == (0 : Int)) || bif !g172_0 (g80_0 x0) (g80_1 x0) (g80_2 x0) (g80_3 x0) then true else !g142_0 (g80_4 x0) (0 : Int) (63 : Int)) && true && ((Option.isSome (L60_0 (70 : Nat) (g80_3 x0) (0 : Int)) || !g151_0 (g80_1 x0) (g80_3 x0)) && true && ((Option.isSome (L60_0 (70 : Nat) (g72_0 (g80_0 x0) (g80_1 x0) (g80_2 x0) (g80_3 x0) (g80_4 x0)) (0 : Int)) || !g151_0 (g80_1 x0) (g72_0 (g80_0 x0) (g80_1 x0) (g80_2 x0) (g80_3 x0) (g80_4 x0))) && true && ((IntKind.wrap IntKind.i64 ((8 : Int) * g80_1 x0) != (0 : Int) && true || !decide (g80_0 x0 ≤ (5 : Int))) && true && true || bif bif bif bif !g72_2 (g80_0 x0) (g80_1 x0) (g80_2 x0) (g80_3 x0) (g80_4 x0) then true else !g151_0 (g80_1 x0) (g80_3 x0) then true else !g151_0 (g80_1 x0) (g72_0 (g80_0 x0) (g80_1 x0) (g80_2 x0) (g80_3 x0) (g80_4 x0)) then true else bif decide (g80_0 x0 ≤ (5 : Int)) then g60_0 (g80_1 x0) (g80_3 x0) != g60_0 (g80_1 x0) (g72_0 (g80_0 x0) (g80_1 x0) (g80_2 x0) (g80_3 x0) (g80_4 x0)) else false then true else bif decide (g80_0 x0 > (5 : Int)) then IntKind.wrap IntKind.i64 (g60_0 (g80_1 x0) (g80_3 x0) + Int.fdiv (g80_2 x0) (16 : Int)) != IntKind.wrap IntKind.i64 (g60_0 (g80_1 x0) (g72_0 (g80_0 x0) (g80_1 x0) (g80_2 x0) (g80_3 x0) (g80_4 x0)) + Int.fdiv (g72_1 (g80_0 x0) (g80_1 x0) (g80_2 x0) (g80_3 x0) (g80_4 x0)) (16 : Int)) else false))) || !g81_1 (g80_0 x0) (g80_1 x0) (g80_2 x0) (g80_3 x0) (g80_4 x0)) && true && (bytesOk x1 && true && ((Option.isSome (L84_0 (70 : Nat) (g158_1 x1) (0 : Int) (IntKind.wrap IntKind.i64 ((8 : Int) * g158_0 x1)) (0 : Int)) || !g151_0 (g158_0 x1) (g158_1 x1)) && true && ((Option.isSome (L85_0 (70 : Nat) (g158_0 x1) (g158_1 x1) (0 : Int) (0 : Int)) || !g181_0 (g158_0 x1) (g158_1 x1)) && true && ((Option.isSome (L60_0 (70 : Nat) (g158_1 x1) (0 : Int)) || !g151_0 (g158_0 x1) (g158_1 x1)) && true && ((Option.isSome (L86_0 (70 : Nat) (g158_1 x1) (0 : Int)) || !g181_0 (g158_0 x1) (g158_1 x1)) && true && (((Option.isSome (L84_0 (70 : Nat) (g84_0 (g158_0 x1) (g158_1 x1)) (0 : Int) (IntKind.wrap IntKind.i64 ((8 : Int) * g158_0 x1)) (0 : Int)) || !g151_0 (g158_0 x1) (g84_0 (g158_0 x1) (g158_1 x1))) && true && ((Option.isSome (L60_0 (70 : Nat) (g84_0 (g158_0 x1) (g158_1 x1)) (0 : Int)) || !g151_0 (g158_0 x1) (g84_0 (g158_0 x1) (g158_1 x1))) && true && true) || !g151_0 (g158_0 x1) (g158_1 x1)) && true && true || bif bif bif !g151_0 (g158_0 x1) (g158_1 x1) == g181_0 (g158_0 x1) (g158_1 x1) then true else g84_0 (g158_0 x1) (g158_1 x1) != g85_0 (g158_0 x1) (g158_1 x1) then true else !g151_0 (g158_0 x1) (g158_1 x1) == g181_0 (g158_0 x1) (g158_1 x1) then true else g60_0 (g158_0 x1) (g158_1 x1) != g86_0 (g158_0 x1) (g158_1 x1)))))) || (bif bif decide (g80_0 x0 ≤ (5 : Int)) then Int.tmod (g80_4 x0) (IntKind.wrap IntKind.i64 ((8 : Int) * g80_1 x0)) == (0 : Int) else false then g72_0 (g80_0 x0) (g80_1 x0) (g80_2 x0) (g80_3 x0) (g80_4 x0) != g80_3 x0 else false) && g81_1 (g80_0 x0) (g80_1 x0) (g80_2 x0) (g80_3 x0) (g80_4 x0) || (bif bif bif bif !g72_2 (g80_0 x0) (g80_1 x0) (g80_2 x0) (g80_3 x0) (g80_4 x0) then true else !g151_0 (g80_1 x0) (g80_3 x0) then true else !g151_0 (g80_1 x0) (g72_0 (g80_0 x0) (g80_1 x0) (g80_2 x0) (g80_3 x0) (g80_4 x0)) then true else bif decide (g80_0 x0 ≤ (5 : Int)) then g60_0 (g80_1 x0) (g80_3 x0) != g60_0 (g80_1 x0) (g72_0 (g80_0 x0) (g80_1 x0) (g80_2 x0) (g80_3 x0) (g80_4 x0)) else false then true else bif decide (g80_0 x0 > (5 : Int)) then IntKind.wrap IntKind.i64 (g60_0 (g80_1 x0) (g80_3 x0) + Int.fdiv (g80_2 x0) (16 : Int)) != IntKind.wrap IntKind.i64 (g60_0 (g80_1 x0) (g72_0 (g80_0 x0) (g80_1 x0) (g80_2 x0) (g80_3 x0) (g80_4 x0)) + Int.fdiv (g72_1 (g80_0 x0) (g80_1 x0) (g80_2 x0) (g80_3 x0) (g80_4 x0)) (16 : Int)) else false) && g81_1 (g80_0 x0) (g80_1 x0) (g80_2 x0) (g80_3 x0) (g80_4 x0)) || bif bif !g81_1 (g80_0 x0) (g80_1 x0) (g80_2 x0) (g80_3 x0) (g80_4 x0) == g82_1 (g80_0 x0) (g80_1 x0) (g80_2 x0) (g80_3 x0) (g80_4 x0) then true else g81_0 (g80_0 x0) (g80_1 x0) (g80_2 x0) (g80_3 x0) (g80_4 x0) != g82_0 (g80_0 x0) (g80_1 x0) (g80_2 x0) (g80_3 x0) (g80_4 x0) then true else bif g81_1 (g80_0 x0) (g80_1 x0) (g80_2 x0) (g80_3 x0) (g80_4 x0) then g81_0 (g80_0 x0) (g80_1 x0) (g80_2 x0) (g80_3 x0) (g80_4 x0) != g80_3 x0 else false))) || decide (IntKind.wrap IntKind.i64 ((↑(List.length x0) : Int) + (↑(List.length x1) : Int)) > (1048576 : Int))) && true) := by kernel_rfl
def q10 : List SV → List Blk → Option ((SV × List Blk) × Bool)
  | [.one (.imm true 1 x0), .one (.imm true 1 x1)], [] => some ((SV.one (T.lit (Value.bool (g10_0 x0 x1))), []), (bytesOk x0 && true && (((decide ((0 : Int) ≤ IntKind.wrap IntKind.i64 ((8 : Int) * g80_1 x0)) || !g80_4 x0 == (0 : Int)) && (Option.isSome (L173_0 (70 : Nat) (g80_0 x0) (g80_1 x0) (g80_2 x0) (g80_3 x0) (g80_4 x0) (0 : Int)) || g80_4 x0 == (0 : Int)) && true && ((decide ((0 : Int) ≤ IntKind.wrap IntKind.i64 ((8 : Int) * g80_1 x0)) || !g80_4 x0 == (0 : Int)) && (Option.isSome (L173_0 (70 : Nat) (IntKind.wrap IntKind.i64 (↑(BitVec.toNat (BitVec.ofInt (64 : Nat) (g80_0 x0) ^^^ BitVec.ofInt (64 : Nat) (1 : Int))) : Int)) (g80_1 x0) (g173_1 (g80_0 x0) (g80_1 x0) (g80_2 x0) (g80_3 x0) (g80_4 x0)) (g173_0 (g80_0 x0) (g80_1 x0) (g80_2 x0) (g80_3 x0) (g80_4 x0)) (g80_4 x0) (0 : Int)) || g80_4 x0 == (0 : Int)) && true && true) || bif bif !g172_0 (g80_0 x0) (g80_1 x0) (g80_2 x0) (g80_3 x0) then true else decide (g80_0 x0 < (4 : Int)) then true else !g142_0 (g80_4 x0) (0 : Int) (63 : Int)) && true && true && (((Option.isSome (L175_0 (70 : Nat) (g80_0 x0) (g80_1 x0) (g80_2 x0) (g80_3 x0) (g80_4 x0) (0 : Int)) || g80_4 x0 == (0 : Int)) && (Option.isSome (L175_0 (70 : Nat) (IntKind.wrap IntKind.i64 (↑(BitVec.toNat (BitVec.ofInt (64 : Nat) (g80_0 x0) ^^^ BitVec.ofInt (64 : Nat) (1 : Int))) : Int)) (g80_1 x0) (g175_1 (g80_0 x0) (g80_1 x0) (g80_2 x0) (g80_3 x0) (g80_4 x0)) (g175_0 (g80_0 x0) (g80_1 x0) (g80_2 x0) (g80_3 x0) (g80_4 x0)) (g80_4 x0) (0 : Int)) || g80_4 x0 == (0 : Int)) || bif bif !g174_0 (g80_0 x0) (g80_1 x0) (g80_2 x0) (g80_3 x0) then true else !g144_0 (g80_4 x0) (0 : Int) (63 : Int) then true else decide (g80_0 x0 < (4 : Int))) && true && ((((decide ((0 : Int) ≤ IntKind.wrap IntKind.i64 ((8 : Int) * g80_1 x0)) || !g80_4 x0 == (0 : Int)) && (Option.isSome (L173_0 (70 : Nat) (g80_0 x0) (g80_1 x0) (g80_2 x0) (g80_3 x0) (g80_4 x0) (0 : Int)) || g80_4 x0 == (0 : Int)) || bif !g172_0 (g80_0 x0) (g80_1 x0) (g80_2 x0) (g80_3 x0) then true else !g142_0 (g80_4 x0) (0 : Int) (63 : Int)) && true && ((Option.isSome (L60_0 (70 : Nat) (g80_3 x0) (0 : Int)) || !g151_0 (g80_1 x0) (g80_3 x0)) && true && ((Option.isSome (L60_0 (70 : Nat) (g72_0 (g80_0 x0) (g80_1 x0) (g80_2 x0) (g80_3 x0) (g80_4 x0)) (0 : Int)) || !g151_0 (g80_1 x0) (g72_0 (g80_0 x0) (g80_1 x0) (g80_2 x0) (g80_3 x0) (g80_4 x0))) && true && ((IntKind.wrap IntKind.i64 ((8 : Int) * g80_1 x0) != (0 : Int) && true || !decide (g80_0 x0 ≤ (5 : Int))) && true && true || bif bif bif bif !g72_2 (g80_0 x0) (g80_1 x0) (g80_2 x0) (g80_3 x0) (g80_4 x0) then true else !g151_0 (g80_1 x0) (g80_3 x0) then true else !g151_0 (g80_1 x0) (g72_0 (g80_0 x0) (g80_1 x0) (g80_2 x0) (g80_3 x0) (g80_4 x0)) then true else bif decide (g80_0 x0 ≤ (5 : Int)) then g60_0 (g80_1 x0) (g80_3 x0) != g60_0 (g80_1 x0) (g72_0 (g80_0 x0) (g80_1 x0) (g80_2 x0) (g80_3 x0) (g80_4 x0)) else false then true else bif decide (g80_0 x0 > (5 : Int)) then IntKind.wrap IntKind.i64 (g60_0 (g80_1 x0) (g80_3 x0) + Int.fdiv (g80_2 x0) (16 : Int)) != IntKind.wrap IntKind.i64 (g60_0 (g80_1 x0) (g72_0 (g80_0 x0) (g80_1 x0) (g80_2 x0) (g80_3 x0) (g80_4 x0)) + Int.fdiv (g72_1 (g80_0 x0) (g80_1 x0) (g80_2 x0) (g80_3 x0) (g80_4 x0)) (16 : Int)) else false))) || !g81_1 (g80_0 x0) (g80_1 x0) (g80_2 x0) (g80_3 x0) (g80_4 x0)) && true && (bytesOk x1 && true && ((Option.isSome (L84_0 (70 : Nat) (g158_1 x1) (0 : Int) (IntKind.wrap IntKind.i64 ((8 : Int) * g158_0 x1)) (0 : Int)) || !g151_0 (g158_0 x1) (g158_1 x1)) && true && ((Option.isSome (L85_0 (70 : Nat) (g158_0 x1) (g158_1 x1) (0 : Int) (0 : Int)) || !g181_0 (g158_0 x1) (g158_1 x1)) && true && ((Option.isSome (L60_0 (70 : Nat) (g158_1 x1) (0 : Int)) || !g151_0 (g158_0 x1) (g158_1 x1)) && true && ((Option.isSome (L86_0 (70 : Nat) (g158_1 x1) (0 : Int)) || !g181_0 (g158_0 x1) (g158_1 x1)) && true && (((Option.isSome (L84_0 (70 : Nat) (g84_0 (g158_0 x1) (g158_1 x1)) (0 : Int) (IntKind.wrap IntKind.i64 ((8 : Int) * g158_0 x1)) (0 : Int)) || !g151_0 (g158_0 x1) (g84_0 (g158_0 x1) (g158_1 x1))) && true && ((Option.isSome (L60_0 (70 : Nat) (g84_0 (g158_0 x1) (g158_1 x1)) (0 : Int)) || !g151_0 (g158_0 x1) (g84_0 (g158_0 x1) (g158_1 x1))) && true && true) || !g151_0 (g158_0 x1) (g158_1 x1)) && true && true || bif bif bif !g151_0 (g158_0 x1) (g158_1 x1) == g181_0 (g158_0 x1) (g158_1 x1) then true else g84_0 (g158_0 x1) (g158_1 x1) != g85_0 (g158_0 x1) (g158_1 x1) then true else !g151_0 (g158_0 x1) (g158_1 x1) == g181_0 (g158_0 x1) (g158_1 x1) then true else g60_0 (g158_0 x1) (g158_1 x1) != g86_0 (g158_0 x1) (g158_1 x1)))))) || (bif bif decide (g80_0 x0 ≤ (5 : Int)) then Int.tmod (g80_4 x0) (IntKind.wrap IntKind.i64 ((8 : Int) * g80_1 x0)) == (0 : Int) else false then g72_0 (g80_0 x0) (g80_1 x0) (g80_2 x0) (g80_3 x0) (g80_4 x0) != g80_3 x0 else false) && g81_1 (g80_0 x0) (g80_1 x0) (g80_2 x0) (g80_3 x0) (g80_4 x0) || (bif bif bif bif !g72_2 (g80_0 x0) (g80_1 x0) (g80_2 x0) (g80_3 x0) (g80_4 x0) then true else !g151_0 (g80_1 x0) (g80_3 x0) then true else !g151_0 (g80_1 x0) (g72_0 (g80_0 x0) (g80_1 x0) (g80_2 x0) (g80_3 x0) (g80_4 x0)) then true else bif decide (g80_0 x0 ≤ (5 : Int)) then g60_0 (g80_1 x0) (g80_3 x0) != g60_0 (g80_1 x0) (g72_0 (g80_0 x0) (g80_1 x0) (g80_2 x0) (g80_3 x0) (g80_4 x0)) else false then true else bif decide (g80_0 x0 > (5 : Int)) then IntKind.wrap IntKind.i64 (g60_0 (g80_1 x0) (g80_3 x0) + Int.fdiv (g80_2 x0) (16 : Int)) != IntKind.wrap IntKind.i64 (g60_0 (g80_1 x0) (g72_0 (g80_0 x0) (g80_1 x0) (g80_2 x0) (g80_3 x0) (g80_4 x0)) + Int.fdiv (g72_1 (g80_0 x0) (g80_1 x0) (g80_2 x0) (g80_3 x0) (g80_4 x0)) (16 : Int)) else false) && g81_1 (g80_0 x0) (g80_1 x0) (g80_2 x0) (g80_3 x0) (g80_4 x0)) || bif bif !g81_1 (g80_0 x0) (g80_1 x0) (g80_2 x0) (g80_3 x0) (g80_4 x0) == g82_1 (g80_0 x0) (g80_1 x0) (g80_2 x0) (g80_3 x0) (g80_4 x0) then true else g81_0 (g80_0 x0) (g80_1 x0) (g80_2 x0) (g80_3 x0) (g80_4 x0) != g82_0 (g80_0 x0) (g80_1 x0) (g80_2 x0) (g80_3 x0) (g80_4 x0) then true else bif g81_1 (g80_0 x0) (g80_1 x0) (g80_2 x0) (g80_3 x0) (g80_4 x0) then g81_0 (g80_0 x0) (g80_1 x0) (g80_2 x0) (g80_3 x0) (g80_4 x0) != g80_3 x0 else false))) || decide (IntKind.wrap IntKind.i64 ((↑(List.length x0) : Int) + (↑(List.length x1) : Int)) > (1048576 : Int))) && true)
  | _, _ => none
theorem t10 (args : List SV) (hp : List Blk) (r : SV × List Blk) (h : q10 args hp = some (r, true)) : R 10 args hp = some r := by
  unfold q10 at h
  split at h
  · rename_i x0 x1; exact R_fn at10 0 (fnT_run Q86_ok ((e10 x0 x1).trans h))
  · simp at h
noncomputable def Q10 : Qt := qcons 10 q10 Q86
theorem Q10_ok : QOk R Q10 := qcons_ok t10 Q86_ok
end Go.Proofs.YtckjibiolfapiaaRotates
