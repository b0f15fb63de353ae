/- What each function gives, and that it does. Printed. -/
import Derived.Test.YtckjibiolfapiaaZqTabCode
import Derived.Test.YtckjibiolfapiaaZmc
import Derived.KernelRfl
import Derived.Test.YtckjibiolfapiaaZqCodeR
set_option linter.unusedVariables false
set_option linter.unusedSimpArgs false
namespace Go.Proofs.YtckjibiolfapiaaCode
open Go Go.Zq
set_option maxRecDepth 100000
structure Gl1Cur where
  mk ::
  (fcode : List Row)
  (fat : Int)
  (fseed : Int)
def Gl1Cur.row (x : Gl1Cur) : Row := [.imm true 1 x.fcode, .lit (.int .i64 x.fat), .lit (.int .u64 x.fseed)]
def Gl1Cur.at (r : List Row) (j i : Nat) : Gl1Cur := ⟨rowsAt r j i, intAt r j (i + 1), intAt r j (i + 2)⟩
structure GOperand where
  mk ::
  (Mode : Int)
  (Reg : Int)
  (Ext : Int)
def GOperand.row (x : GOperand) : Row := [.lit (.int .i64 x.Mode), .lit (.int .i64 x.Reg), .lit (.int .i64 x.Ext)]
def GOperand.at (r : List Row) (j i : Nat) : GOperand := ⟨intAt r j i, intAt r j (i + 1), intAt r j (i + 2)⟩
structure GIns where
  mk ::
  (Op : Int)
  (Size : Int)
  (Reg : Int)
  (Ea : GOperand)
  (Sub : Int)
def GIns.row (x : GIns) : Row := [.lit (.int .i64 x.Op), .lit (.int .i64 x.Size), .lit (.int .i64 x.Reg), .lit (.int .i64 x.Ea.Mode), .lit (.int .i64 x.Ea.Reg), .lit (.int .i64 x.Ea.Ext), .lit (.int .i64 x.Sub)]
def GIns.at (r : List Row) (j i : Nat) : GIns := ⟨intAt r j i, intAt r j (i + 1), intAt r j (i + 2), ⟨intAt r j (i + 3), intAt r j (i + 4), intAt r j (i + 5)⟩, intAt r j (i + 6)⟩
/-! (*spec.l1Cur).next -/
noncomputable def y217_0 (x0 : Gl1Cur) : Int := (bif (ltI x0.fat (lenI x0.fcode)) then (wrapK .i64 (intAt x0.fcode (Int.toNat x0.fat) 0)) else 0)
noncomputable def y217_1 (x0 : Gl1Cur) : Int := (addK .u64 (addK .u64 (mulK .u64 x0.fseed 6364136223846793005) (wrapK .u64 (y217_0 x0))) 1442695040888963407)
noncomputable def T217 (x0 : Gl1Cur) : Pt (Gl1Cur × Int) := (.ok true (.ok true (.ok true (.ok ((((inRow [.int .u8] x0.fcode x0.fat) && true) || (!(ltI x0.fat (lenI x0.fcode)))) && true) (.ok true (.ok true (.ok true (.br (leI (addI x0.fat 1) (lenI x0.fcode)) (.ok true (.ok true (.leaf ((Gl1Cur.mk x0.fcode (addI x0.fat 1) (y217_1 x0)), (y217_0 x0))))) (.ok true (.ok true (.leaf ((Gl1Cur.mk x0.fcode (addI x0.fat 1) (y217_1 x0)), (wrapK .i64 (andK .u64 (shrK .u64 (y217_1 x0) 40) 255))))))))))))))
noncomputable def g217 (x0 : Gl1Cur) : Gl1Cur × Int := hid (T217 x0).val
noncomputable def k217 (x0 : Gl1Cur) : Bool := hid (T217 x0).okv
noncomputable def n217 (x0 : Gl1Cur) (r : Gl1Cur × Int) : SV × List Blk := ((.one (.lit (.int .i64 r.2))), [.box [.imm true 1 r.1.fcode, .lit (.int .i64 r.1.fat), .lit (.int .u64 r.1.fseed)]])
theorem e217 (x0 : Gl1Cur) : fnP qnil [(7, [.int .i64]), (11, [.imm 1]), (17, [.imm 1]), (21, [.int .i64]), (22, [.int .u8]), (23, [.int .u8]), (28, [.int .i64]), (36, [.int .u64]), (47, [.int .i64]), (51, [.imm 1]), (58, [.int .u64])] [] true [] 9223372036854775808 F217 [(.one (.ptr 0 0 0))] [.box [.imm true 1 x0.fcode, .lit (.int .i64 x0.fat), .lit (.int .u64 x0.fseed)]] = some ((T217 x0).map (n217 x0)) := by kernel_rfl
noncomputable def q217 : List SV → List Blk → Option ((SV × List Blk) × Bool)
  | [(.one (.ptr 0 0 0))], [.box [.imm true 1 c0, .lit (.int .i64 c1), .lit (.int .u64 c2)]] => some (n217 (Gl1Cur.mk c0 c1 c2) (g217 (Gl1Cur.mk c0 c1 c2)), k217 (Gl1Cur.mk c0 c1 c2))
  | _, _ => none
theorem t217 (args : List SV) (hp : List Blk) (r : SV × List Blk) (h : q217 args hp = some (r, true)) : frzR R 217 args hp = some r := by
  unfold q217 at h
  split at h
  · rename_i c0 c1 c2
    obtain ⟨hr, hk⟩ := Prod.mk.inj (Option.some.inj h)
    exact (frz_lo (by decide)).trans (R_fn at217 9223372036854775808 (fnP_c qnil_ok (loops_of (l := []) rfl trivial) (e217 (Gl1Cur.mk c0 c1 c2)) hr hk))
  · simp at h
noncomputable def Q217 : Qt := qcons 217 q217 qnil
theorem Q217_ok : QOk (frzR R) Q217 := qcons_ok t217 qnil_ok
/-! (*spec.l1Cur).pick -/
noncomputable def T141 (x1 : Int) (x0 : Gl1Cur) : Pt (Gl1Cur × Int) := (.ok true (.ok true (.br (leI x1 1) (.ok true (.ok true (.leaf (x0, 0)))) (.ok ((k217 x0) && true) (.ok true (.br (gtI x1 200) (.ok ((k217 (g217 x0).1) && true) (.ok ((neI x1 0) && true) (.ok true (.leaf ((g217 (g217 x0).1).1, (remI (addI (mulI (g217 x0).2 256) (g217 (g217 x0).1).2) x1)))))) (.ok ((neI x1 0) && true) (.ok true (.leaf ((g217 x0).1, (remI (g217 x0).2 x1)))))))))))
noncomputable def g141 (x1 : Int) (x0 : Gl1Cur) : Gl1Cur × Int := hid (T141 x1 x0).val
noncomputable def k141 (x1 : Int) (x0 : Gl1Cur) : Bool := hid (T141 x1 x0).okv
noncomputable def n141 (x1 : Int) (x0 : Gl1Cur) (r : Gl1Cur × Int) : SV × List Blk := ((.one (.lit (.int .i64 r.2))), [.box [.imm true 1 r.1.fcode, .lit (.int .i64 r.1.fat), .lit (.int .u64 r.1.fseed)]])
theorem e141 (x1 : Int) (x0 : Gl1Cur) : fnP Q217 [] [] true [] 9223372036854775808 F141 [(.one (.ptr 0 0 0)), (.one (.lit (.int .i64 x1)))] [.box [.imm true 1 x0.fcode, .lit (.int .i64 x0.fat), .lit (.int .u64 x0.fseed)]] = some ((T141 x1 x0).map (n141 x1 x0)) := by kernel_rfl
noncomputable def q141 : List SV → List Blk → Option ((SV × List Blk) × Bool)
  | [(.one (.ptr 0 0 0)), (.one (.lit (.int .i64 c0)))], [.box [.imm true 1 c1, .lit (.int .i64 c2), .lit (.int .u64 c3)]] => some (n141 c0 (Gl1Cur.mk c1 c2 c3) (g141 c0 (Gl1Cur.mk c1 c2 c3)), k141 c0 (Gl1Cur.mk c1 c2 c3))
  | _, _ => none
theorem t141 (args : List SV) (hp : List Blk) (r : SV × List Blk) (h : q141 args hp = some (r, true)) : frzR R 141 args hp = some r := by
  unfold q141 at h
  split at h
  · rename_i c0 c1 c2 c3
    obtain ⟨hr, hk⟩ := Prod.mk.inj (Option.some.inj h)
    exact (frz_lo (by decide)).trans (R_fn at141 9223372036854775808 (fnP_c Q217_ok (loops_of (l := []) rfl trivial) (e141 c0 (Gl1Cur.mk c1 c2 c3)) hr hk))
  · simp at h
noncomputable def Q141 : Qt := qcons 141 q141 Q217
theorem Q141_ok : QOk (frzR R) Q141 := qcons_ok t141 Q217_ok
/-! spec.l6Ext -/
noncomputable def T204 (x0 : Int) : Pt (Bool) := (.ok true (.ok true (.ok true (.ok true (.leaf (geI x0 5))))))
noncomputable def g204 (x0 : Int) : Bool := hid (T204 x0).val
noncomputable def k204 (x0 : Int) : Bool := hid (T204 x0).okv
noncomputable def n204 (x0 : Int) (r : Bool) : SV × List Blk := ((.one (.lit (.bool r))), [])
theorem e204 (x0 : Int) : fnZ Q141 [] [] true [] 9223372036854775808 F204 [(.one (.lit (.int .i64 x0)))] = some ((T204 x0).map (n204 x0)) := by kernel_rfl
noncomputable def q204 : List SV → List Blk → Option ((SV × List Blk) × Bool)
  | [(.one (.lit (.int .i64 c0)))], [] => some (n204 c0 (g204 c0), k204 c0)
  | _, _ => none
theorem t204 (args : List SV) (hp : List Blk) (r : SV × List Blk) (h : q204 args hp = some (r, true)) : frzR R 100204 args hp = some r := by
  unfold q204 at h
  split at h
  · rename_i c0
    obtain ⟨hr, hk⟩ := Prod.mk.inj (Option.some.inj h)
    exact fnZ_c (f := 204) Q141_ok (loops_of (l := []) rfl trivial) (e204 c0) hr hk (fun r h => R_fn at204 9223372036854775808 h)
  · simp at h
noncomputable def Q204 : Qt := qcons 100204 q204 Q141
theorem Q204_ok : QOk (frzR R) Q204 := qcons_ok t204 Q141_ok
/-! (*spec.l1Cur).among -/
noncomputable def T133 (x1 : List Row) (x0 : Gl1Cur) : Pt (Gl1Cur × Int) := (.ok true (.ok ((k141 (lenI x1) x0) && ((inRow [.int .i64] x1 (g141 (lenI x1) x0).2) && true)) (.ok true (.leaf ((g141 (lenI x1) x0).1, (intAt x1 (Int.toNat (g141 (lenI x1) x0).2) 0))))))
noncomputable def g133 (x1 : List Row) (x0 : Gl1Cur) : Gl1Cur × Int := hid (T133 x1 x0).val
noncomputable def k133 (x1 : List Row) (x0 : Gl1Cur) : Bool := hid (T133 x1 x0).okv
noncomputable def n133 (x1 : List Row) (x0 : Gl1Cur) (r : Gl1Cur × Int) : SV × List Blk := ((.one (.lit (.int .i64 r.2))), [.box [.imm true 1 r.1.fcode, .lit (.int .i64 r.1.fat), .lit (.int .u64 r.1.fseed)]])
theorem e133 (x1 : List Row) (x0 : Gl1Cur) : fnP Q204 [(10, [.int .i64]), (11, [.int .i64])] [] true [] 9223372036854775808 F133 [(.one (.ptr 0 0 0)), (.one (.imm false 1 x1))] [.box [.imm true 1 x0.fcode, .lit (.int .i64 x0.fat), .lit (.int .u64 x0.fseed)]] = some ((T133 x1 x0).map (n133 x1 x0)) := by kernel_rfl
noncomputable def q133 : List SV → List Blk → Option ((SV × List Blk) × Bool)
  | [(.one (.ptr 0 0 0)), (.one (.imm false 1 c0))], [.box [.imm true 1 c1, .lit (.int .i64 c2), .lit (.int .u64 c3)]] => some (n133 c0 (Gl1Cur.mk c1 c2 c3) (g133 c0 (Gl1Cur.mk c1 c2 c3)), k133 c0 (Gl1Cur.mk c1 c2 c3))
  | _, _ => none
theorem t133 (args : List SV) (hp : List Blk) (r : SV × List Blk) (h : q133 args hp = some (r, true)) : frzR R 133 args hp = some r := by
  unfold q133 at h
  split at h
  · rename_i c0 c1 c2 c3
    obtain ⟨hr, hk⟩ := Prod.mk.inj (Option.some.inj h)
    exact (frz_lo (by decide)).trans (R_fn at133 9223372036854775808 (fnP_c Q204_ok (loops_of (l := []) rfl trivial) (e133 c0 (Gl1Cur.mk c1 c2 c3)) hr hk))
  · simp at h
noncomputable def Q133 : Qt := qcons 133 q133 Q204
theorem Q133_ok : QOk (frzR R) Q133 := qcons_ok t133 Q204_ok
/-! (*spec.l1Cur).one -/
noncomputable def T167 (x1 : Int) (x0 : Gl1Cur) : Pt (Gl1Cur × Bool) := (.ok true (.ok ((k141 x1 x0) && true) (.ok true (.leaf ((g141 x1 x0).1, (eqI (g141 x1 x0).2 0))))))
noncomputable def g167 (x1 : Int) (x0 : Gl1Cur) : Gl1Cur × Bool := hid (T167 x1 x0).val
noncomputable def k167 (x1 : Int) (x0 : Gl1Cur) : Bool := hid (T167 x1 x0).okv
noncomputable def n167 (x1 : Int) (x0 : Gl1Cur) (r : Gl1Cur × Bool) : SV × List Blk := ((.one (.lit (.bool r.2))), [.box [.imm true 1 r.1.fcode, .lit (.int .i64 r.1.fat), .lit (.int .u64 r.1.fseed)]])
theorem e167 (x1 : Int) (x0 : Gl1Cur) : fnP Q133 [] [] true [] 9223372036854775808 F167 [(.one (.ptr 0 0 0)), (.one (.lit (.int .i64 x1)))] [.box [.imm true 1 x0.fcode, .lit (.int .i64 x0.fat), .lit (.int .u64 x0.fseed)]] = some ((T167 x1 x0).map (n167 x1 x0)) := by kernel_rfl
noncomputable def q167 : List SV → List Blk → Option ((SV × List Blk) × Bool)
  | [(.one (.ptr 0 0 0)), (.one (.lit (.int .i64 c0)))], [.box [.imm true 1 c1, .lit (.int .i64 c2), .lit (.int .u64 c3)]] => some (n167 c0 (Gl1Cur.mk c1 c2 c3) (g167 c0 (Gl1Cur.mk c1 c2 c3)), k167 c0 (Gl1Cur.mk c1 c2 c3))
  | _, _ => none
theorem t167 (args : List SV) (hp : List Blk) (r : SV × List Blk) (h : q167 args hp = some (r, true)) : frzR R 167 args hp = some r := by
  unfold q167 at h
  split at h
  · rename_i c0 c1 c2 c3
    obtain ⟨hr, hk⟩ := Prod.mk.inj (Option.some.inj h)
    exact (frz_lo (by decide)).trans (R_fn at167 9223372036854775808 (fnP_c Q133_ok (loops_of (l := []) rfl trivial) (e167 c0 (Gl1Cur.mk c1 c2 c3)) hr hk))
  · simp at h
noncomputable def Q167 : Qt := qcons 167 q167 Q133
theorem Q167_ok : QOk (frzR R) Q167 := qcons_ok t167 Q133_ok
/-! (*spec.l1Cur).operand -/
noncomputable def y197_0 (x0 : Gl1Cur) : Gl1Cur × Int := (g133 [(rowI 0), (rowI 1), (rowI 2), (rowI 20), (rowI 100), (rowI 200), (rowI 384), (rowI 448), (rowI 65535), (rowI 65534)] (g141 4 (g141 8 x0).1).1)
noncomputable def y197_1 (x0 : Gl1Cur) : Gl1Cur × Int := (g141 9 (g167 60 (y197_0 x0).1).1)
noncomputable def y197_2 (x0 : Gl1Cur) : Gl1Cur × Int := (g141 2 (g141 5 (y197_1 x0).1).1)
noncomputable def y197_3 (x0 : Gl1Cur) : Gl1Cur × Bool := (g167 60 (g141 4 (g141 8 x0).1).1)
noncomputable def y197_4 (x0 : Gl1Cur) : Gl1Cur × Int := (g141 5 (g141 9 (y197_3 x0).1).1)
noncomputable def y197_5 (x0 : Gl1Cur) : Gl1Cur × Int := (g133 [(rowI 0), (rowI 1), (rowI 2), (rowI 20), (rowI 100), (rowI 200), (rowI 384), (rowI 448), (rowI 65535), (rowI 65534)] (g141 8 x0).1)
noncomputable def y197_6 (x0 : Gl1Cur) : Gl1Cur × Int := (g141 9 (g167 60 (y197_5 x0).1).1)
noncomputable def y197_7 (x0 : Gl1Cur) : Gl1Cur × Int := (g141 2 (g141 5 (y197_6 x0).1).1)
noncomputable def y197_8 (x0 : Gl1Cur) : Gl1Cur × Int := (g141 9 (g167 60 (g141 8 x0).1).1)
noncomputable def y197_9 (x0 : Gl1Cur) : Gl1Cur × Int := (g141 2 (g141 5 (y197_8 x0).1).1)
noncomputable def T197 (x0 : Gl1Cur) : Pt (Gl1Cur × GOperand) := (.ok true (.ok ((k141 8 x0) && true) (.ok true (.br (ltI (g141 8 x0).2 6) (.ok ((k141 4 (g141 8 x0).1) && true) (.ok ((k204 (g141 8 x0).2) && true) (.br (g204 (g141 8 x0).2) (.ok ((k133 [(rowI 0), (rowI 1), (rowI 2), (rowI 20), (rowI 100), (rowI 200), (rowI 384), (rowI 448), (rowI 65535), (rowI 65534)] (g141 4 (g141 8 x0).1).1) && true) (.ok ((k167 60 (y197_0 x0).1) && true) (.br (g167 60 (y197_0 x0).1).2 (.ok ((k141 9 (g167 60 (y197_0 x0).1).1) && ((k141 5 (y197_1 x0).1) && ((k141 2 (g141 5 (y197_1 x0).1).1) && true))) (.ok true (.ok true (.leaf ((y197_2 x0).1, (GOperand.mk (y197_1 x0).2 (g141 5 (y197_1 x0).1).2 (y197_2 x0).2)))))) (.ok true (.ok true (.leaf ((g167 60 (y197_0 x0).1).1, (GOperand.mk (g141 8 x0).2 (g141 4 (g141 8 x0).1).2 (y197_0 x0).2)))))))) (.ok ((k167 60 (g141 4 (g141 8 x0).1).1) && true) (.br (y197_3 x0).2 (.ok ((k141 9 (y197_3 x0).1) && ((k141 5 (g141 9 (y197_3 x0).1).1) && ((k141 2 (y197_4 x0).1) && true))) (.ok true (.ok true (.leaf ((g141 2 (y197_4 x0).1).1, (GOperand.mk (g141 9 (y197_3 x0).1).2 (y197_4 x0).2 (g141 2 (y197_4 x0).1).2)))))) (.ok true (.ok true (.leaf ((y197_3 x0).1, (GOperand.mk (g141 8 x0).2 (g141 4 (g141 8 x0).1).2 0)))))))))) (.ok ((k204 (g141 8 x0).2) && true) (.br (g204 (g141 8 x0).2) (.ok ((k133 [(rowI 0), (rowI 1), (rowI 2), (rowI 20), (rowI 100), (rowI 200), (rowI 384), (rowI 448), (rowI 65535), (rowI 65534)] (g141 8 x0).1) && true) (.ok ((k167 60 (y197_5 x0).1) && true) (.br (g167 60 (y197_5 x0).1).2 (.ok ((k141 9 (g167 60 (y197_5 x0).1).1) && ((k141 5 (y197_6 x0).1) && ((k141 2 (g141 5 (y197_6 x0).1).1) && true))) (.ok true (.ok true (.leaf ((y197_7 x0).1, (GOperand.mk (y197_6 x0).2 (g141 5 (y197_6 x0).1).2 (y197_7 x0).2)))))) (.ok true (.ok true (.leaf ((g167 60 (y197_5 x0).1).1, (GOperand.mk (g141 8 x0).2 0 (y197_5 x0).2)))))))) (.ok ((k167 60 (g141 8 x0).1) && true) (.br (g167 60 (g141 8 x0).1).2 (.ok ((k141 9 (g167 60 (g141 8 x0).1).1) && ((k141 5 (y197_8 x0).1) && ((k141 2 (g141 5 (y197_8 x0).1).1) && true))) (.ok true (.ok true (.leaf ((y197_9 x0).1, (GOperand.mk (y197_8 x0).2 (g141 5 (y197_8 x0).1).2 (y197_9 x0).2)))))) (.ok true (.ok true (.leaf ((g167 60 (g141 8 x0).1).1, (GOperand.mk (g141 8 x0).2 0 0)))))))))))))
noncomputable def g197 (x0 : Gl1Cur) : Gl1Cur × GOperand := hid (T197 x0).val
noncomputable def k197 (x0 : Gl1Cur) : Bool := hid (T197 x0).okv
noncomputable def n197 (x0 : Gl1Cur) (r : Gl1Cur × GOperand) : SV × List Blk := ((.agg [.lit (.int .i64 r.2.Mode), .lit (.int .i64 r.2.Reg), .lit (.int .i64 r.2.Ext)]), [.box [.imm true 1 r.1.fcode, .lit (.int .i64 r.1.fat), .lit (.int .u64 r.1.fseed)]])
theorem e197 (x0 : Gl1Cur) : fnP Q167 [(8, [.int .i64]), (14, [.int .i64]), (29, [.int .i64, .int .i64, .int .i64])] [] true [] 9223372036854775808 F197 [(.one (.ptr 0 0 0))] [.box [.imm true 1 x0.fcode, .lit (.int .i64 x0.fat), .lit (.int .u64 x0.fseed)]] = some ((T197 x0).map (n197 x0)) := by kernel_rfl
noncomputable def q197 : List SV → List Blk → Option ((SV × List Blk) × Bool)
  | [(.one (.ptr 0 0 0))], [.box [.imm true 1 c0, .lit (.int .i64 c1), .lit (.int .u64 c2)]] => some (n197 (Gl1Cur.mk c0 c1 c2) (g197 (Gl1Cur.mk c0 c1 c2)), k197 (Gl1Cur.mk c0 c1 c2))
  | _, _ => none
theorem t197 (args : List SV) (hp : List Blk) (r : SV × List Blk) (h : q197 args hp = some (r, true)) : frzR R 197 args hp = some r := by
  unfold q197 at h
  split at h
  · rename_i c0 c1 c2
    obtain ⟨hr, hk⟩ := Prod.mk.inj (Option.some.inj h)
    exact (frz_lo (by decide)).trans (R_fn at197 9223372036854775808 (fnP_c Q167_ok (loops_of (l := []) rfl trivial) (e197 (Gl1Cur.mk c0 c1 c2)) hr hk))
  · simp at h
noncomputable def Q197 : Qt := qcons 197 q197 Q167
theorem Q197_ok : QOk (frzR R) Q197 := qcons_ok t197 Q167_ok
/-! spec.l1Flag -/
noncomputable def T168 (x0 : Bool) (x1 : Int) : Pt (Int) := (.ok true (.ok true (.br x0 (.ok true (.ok true (.ok true (.leaf x1)))) (.ok true (.ok true (.ok true (.leaf 0)))))))
noncomputable def g168 (x0 : Bool) (x1 : Int) : Int := hid (T168 x0 x1).val
noncomputable def k168 (x0 : Bool) (x1 : Int) : Bool := hid (T168 x0 x1).okv
noncomputable def n168 (x0 : Bool) (x1 : Int) (r : Int) : SV × List Blk := ((.one (.lit (.int .i64 r))), [])
theorem e168 (x0 : Bool) (x1 : Int) : fnZ Q197 [] [] true [] 9223372036854775808 F168 [(.one (.lit (.bool x0))), (.one (.lit (.int .i64 x1)))] = some ((T168 x0 x1).map (n168 x0 x1)) := by kernel_rfl
noncomputable def q168 : List SV → List Blk → Option ((SV × List Blk) × Bool)
  | [(.one (.lit (.bool c0))), (.one (.lit (.int .i64 c1)))], [] => some (n168 c0 c1 (g168 c0 c1), k168 c0 c1)
  | _, _ => none
theorem t168 (args : List SV) (hp : List Blk) (r : SV × List Blk) (h : q168 args hp = some (r, true)) : frzR R 100168 args hp = some r := by
  unfold q168 at h
  split at h
  · rename_i c0 c1
    obtain ⟨hr, hk⟩ := Prod.mk.inj (Option.some.inj h)
    exact fnZ_c (f := 168) Q197_ok (loops_of (l := []) rfl trivial) (e168 c0 c1) hr hk (fun r h => R_fn at168 9223372036854775808 h)
  · simp at h
noncomputable def Q168 : Qt := qcons 100168 q168 Q197
theorem Q168_ok : QOk (frzR R) Q168 := qcons_ok t168 Q197_ok
/-! spec.l1Size -/
noncomputable def T201 (x0 : Int) : Pt (Bool) := (.ok true (.ok true (.ok true (.ok true (.leaf (bif (eqI x0 1) then true else (eqI x0 2)))))))
noncomputable def g201 (x0 : Int) : Bool := hid (T201 x0).val
noncomputable def k201 (x0 : Int) : Bool := hid (T201 x0).okv
noncomputable def n201 (x0 : Int) (r : Bool) : SV × List Blk := ((.one (.lit (.bool r))), [])
theorem e201 (x0 : Int) : fnZ Q168 [] [] true [] 9223372036854775808 F201 [(.one (.lit (.int .i64 x0)))] = some ((T201 x0).map (n201 x0)) := by kernel_rfl
noncomputable def q201 : List SV → List Blk → Option ((SV × List Blk) × Bool)
  | [(.one (.lit (.int .i64 c0)))], [] => some (n201 c0 (g201 c0), k201 c0)
  | _, _ => none
theorem t201 (args : List SV) (hp : List Blk) (r : SV × List Blk) (h : q201 args hp = some (r, true)) : frzR R 100201 args hp = some r := by
  unfold q201 at h
  split at h
  · rename_i c0
    obtain ⟨hr, hk⟩ := Prod.mk.inj (Option.some.inj h)
    exact fnZ_c (f := 201) Q168_ok (loops_of (l := []) rfl trivial) (e201 c0) hr hk (fun r h => R_fn at201 9223372036854775808 h)
  · simp at h
noncomputable def Q201 : Qt := qcons 100201 q201 Q168
theorem Q201_ok : QOk (frzR R) Q201 := qcons_ok t201 Q168_ok
/-! spec.l1In -/
noncomputable def T144 (x0 : Int) (x1 : Int) (x2 : Int) : Pt (Bool) := (.ok true (.ok true (.ok true (.ok true (.leaf (bif (geI x0 x1) then (leI x0 x2) else false))))))
noncomputable def g144 (x0 : Int) (x1 : Int) (x2 : Int) : Bool := hid (T144 x0 x1 x2).val
noncomputable def k144 (x0 : Int) (x1 : Int) (x2 : Int) : Bool := hid (T144 x0 x1 x2).okv
noncomputable def n144 (x0 : Int) (x1 : Int) (x2 : Int) (r : Bool) : SV × List Blk := ((.one (.lit (.bool r))), [])
theorem e144 (x0 : Int) (x1 : Int) (x2 : Int) : fnZ Q201 [] [] true [] 9223372036854775808 F144 [(.one (.lit (.int .i64 x0))), (.one (.lit (.int .i64 x1))), (.one (.lit (.int .i64 x2)))] = some ((T144 x0 x1 x2).map (n144 x0 x1 x2)) := by kernel_rfl
noncomputable def q144 : List SV → List Blk → Option ((SV × List Blk) × Bool)
  | [(.one (.lit (.int .i64 c0))), (.one (.lit (.int .i64 c1))), (.one (.lit (.int .i64 c2)))], [] => some (n144 c0 c1 c2 (g144 c0 c1 c2), k144 c0 c1 c2)
  | _, _ => none
theorem t144 (args : List SV) (hp : List Blk) (r : SV × List Blk) (h : q144 args hp = some (r, true)) : frzR R 100144 args hp = some r := by
  unfold q144 at h
  split at h
  · rename_i c0 c1 c2
    obtain ⟨hr, hk⟩ := Prod.mk.inj (Option.some.inj h)
    exact fnZ_c (f := 144) Q201_ok (loops_of (l := []) rfl trivial) (e144 c0 c1 c2) hr hk (fun r h => R_fn at144 9223372036854775808 h)
  · simp at h
noncomputable def Q144 : Qt := qcons 100144 q144 Q201
theorem Q144_ok : QOk (frzR R) Q144 := qcons_ok t144 Q201_ok
/-! spec.l6Word -/
noncomputable def T162 (x0 : Int) : Pt (Bool) := (.ok true (.ok ((k144 x0 0 65535) && true) (.ok true (.ok true (.leaf (g144 x0 0 65535))))))
noncomputable def g162 (x0 : Int) : Bool := hid (T162 x0).val
noncomputable def k162 (x0 : Int) : Bool := hid (T162 x0).okv
noncomputable def n162 (x0 : Int) (r : Bool) : SV × List Blk := ((.one (.lit (.bool r))), [])
theorem e162 (x0 : Int) : fnZ Q144 [] [] true [] 9223372036854775808 F162 [(.one (.lit (.int .i64 x0)))] = some ((T162 x0).map (n162 x0)) := by kernel_rfl
noncomputable def q162 : List SV → List Blk → Option ((SV × List Blk) × Bool)
  | [(.one (.lit (.int .i64 c0)))], [] => some (n162 c0 (g162 c0), k162 c0)
  | _, _ => none
theorem t162 (args : List SV) (hp : List Blk) (r : SV × List Blk) (h : q162 args hp = some (r, true)) : frzR R 100162 args hp = some r := by
  unfold q162 at h
  split at h
  · rename_i c0
    obtain ⟨hr, hk⟩ := Prod.mk.inj (Option.some.inj h)
    exact fnZ_c (f := 162) Q144_ok (loops_of (l := []) rfl trivial) (e162 c0) hr hk (fun r h => R_fn at162 9223372036854775808 h)
  · simp at h
noncomputable def Q162 : Qt := qcons 100162 q162 Q144
theorem Q162_ok : QOk (frzR R) Q162 := qcons_ok t162 Q144_ok
/-! spec.GoodOperand -/
noncomputable def T115 (x0 : GOperand) : Pt (Bool) := (.ok true (.ok ((k144 x0.Mode 0 7) && ((((k144 x0.Reg 0 3) && true) || (!(g144 x0.Mode 0 7))) && true)) (.br (bif (bif (!(g144 x0.Mode 0 7)) then true else (!(g144 x0.Reg 0 3))) then true else (bif (geI x0.Mode 6) then (neI x0.Reg 0) else false)) (.ok true (.ok true (.ok true (.leaf false)))) (.ok ((k162 x0.Ext) && ((((k204 x0.Mode) && true) || (!(g162 x0.Ext))) && true)) (.ok true (.ok true (.leaf (bif (g162 x0.Ext) then (bif (g204 x0.Mode) then true else (eqI x0.Ext 0)) else false))))))))
noncomputable def g115 (x0 : GOperand) : Bool := hid (T115 x0).val
noncomputable def k115 (x0 : GOperand) : Bool := hid (T115 x0).okv
noncomputable def n115 (x0 : GOperand) (r : Bool) : SV × List Blk := ((.one (.lit (.bool r))), [])
theorem e115 (x0 : GOperand) : fnZ Q162 [(4, [.int .i64]), (9, [.int .i64]), (15, [.int .i64]), (19, [.int .i64]), (24, [.int .i64]), (28, [.int .i64]), (32, [.int .i64])] [] true [] 9223372036854775808 F115 [(.agg [.lit (.int .i64 x0.Mode), .lit (.int .i64 x0.Reg), .lit (.int .i64 x0.Ext)])] = some ((T115 x0).map (n115 x0)) := by kernel_rfl
noncomputable def q115 : List SV → List Blk → Option ((SV × List Blk) × Bool)
  | [(.agg [.lit (.int .i64 c0), .lit (.int .i64 c1), .lit (.int .i64 c2)])], [] => some (n115 (GOperand.mk c0 c1 c2) (g115 (GOperand.mk c0 c1 c2)), k115 (GOperand.mk c0 c1 c2))
  | _, _ => none
theorem t115 (args : List SV) (hp : List Blk) (r : SV × List Blk) (h : q115 args hp = some (r, true)) : frzR R 100115 args hp = some r := by
  unfold q115 at h
  split at h
  · rename_i c0 c1 c2
    obtain ⟨hr, hk⟩ := Prod.mk.inj (Option.some.inj h)
    exact fnZ_c (f := 115) Q162_ok (loops_of (l := []) rfl trivial) (e115 (GOperand.mk c0 c1 c2)) hr hk (fun r h => R_fn at115 9223372036854775808 h)
  · simp at h
noncomputable def Q115 : Qt := qcons 100115 q115 Q162
theorem Q115_ok : QOk (frzR R) Q115 := qcons_ok t115 Q162_ok
/-! spec.l7Memory -/
noncomputable def T233 (x0 : Int) : Pt (Bool) := (.ok true (.ok ((k144 x0 2 6) && true) (.ok true (.ok true (.leaf (g144 x0 2 6))))))
noncomputable def g233 (x0 : Int) : Bool := hid (T233 x0).val
noncomputable def k233 (x0 : Int) : Bool := hid (T233 x0).okv
noncomputable def n233 (x0 : Int) (r : Bool) : SV × List Blk := ((.one (.lit (.bool r))), [])
theorem e233 (x0 : Int) : fnZ Q115 [] [] true [] 9223372036854775808 F233 [(.one (.lit (.int .i64 x0)))] = some ((T233 x0).map (n233 x0)) := by kernel_rfl
noncomputable def q233 : List SV → List Blk → Option ((SV × List Blk) × Bool)
  | [(.one (.lit (.int .i64 c0)))], [] => some (n233 c0 (g233 c0), k233 c0)
  | _, _ => none
theorem t233 (args : List SV) (hp : List Blk) (r : SV × List Blk) (h : q233 args hp = some (r, true)) : frzR R 100233 args hp = some r := by
  unfold q233 at h
  split at h
  · rename_i c0
    obtain ⟨hr, hk⟩ := Prod.mk.inj (Option.some.inj h)
    exact fnZ_c (f := 233) Q115_ok (loops_of (l := []) rfl trivial) (e233 c0) hr hk (fun r h => R_fn at233 9223372036854775808 h)
  · simp at h
noncomputable def Q233 : Qt := qcons 100233 q233 Q115
theorem Q233_ok : QOk (frzR R) Q233 := qcons_ok t233 Q115_ok
/-! spec.l7Plain -/
noncomputable def T234 (x0 : Int) : Pt (Bool) := (.ok true (.ok true (.ok true (.ok true (.leaf (bif (bif (eqI x0 2) then true else (eqI x0 5)) then true else (eqI x0 6)))))))
noncomputable def g234 (x0 : Int) : Bool := hid (T234 x0).val
noncomputable def k234 (x0 : Int) : Bool := hid (T234 x0).okv
noncomputable def n234 (x0 : Int) (r : Bool) : SV × List Blk := ((.one (.lit (.bool r))), [])
theorem e234 (x0 : Int) : fnZ Q233 [] [] true [] 9223372036854775808 F234 [(.one (.lit (.int .i64 x0)))] = some ((T234 x0).map (n234 x0)) := by kernel_rfl
noncomputable def q234 : List SV → List Blk → Option ((SV × List Blk) × Bool)
  | [(.one (.lit (.int .i64 c0)))], [] => some (n234 c0 (g234 c0), k234 c0)
  | _, _ => none
theorem t234 (args : List SV) (hp : List Blk) (r : SV × List Blk) (h : q234 args hp = some (r, true)) : frzR R 100234 args hp = some r := by
  unfold q234 at h
  split at h
  · rename_i c0
    obtain ⟨hr, hk⟩ := Prod.mk.inj (Option.some.inj h)
    exact fnZ_c (f := 234) Q233_ok (loops_of (l := []) rfl trivial) (e234 c0) hr hk (fun r h => R_fn at234 9223372036854775808 h)
  · simp at h
noncomputable def Q234 : Qt := qcons 100234 q234 Q233
theorem Q234_ok : QOk (frzR R) Q234 := qcons_ok t234 Q233_ok
/-! spec.l7Now -/
noncomputable def T235 (x0 : GOperand) : Pt (Bool) := (.ok true (.ok true (.ok true (.ok true (.leaf (bif (eqI x0.Mode 7) then (leI x0.Ext 1023) else false))))))
noncomputable def g235 (x0 : GOperand) : Bool := hid (T235 x0).val
noncomputable def k235 (x0 : GOperand) : Bool := hid (T235 x0).okv
noncomputable def n235 (x0 : GOperand) (r : Bool) : SV × List Blk := ((.one (.lit (.bool r))), [])
theorem e235 (x0 : GOperand) : fnZ Q234 [(4, [.int .i64]), (8, [.int .i64])] [] true [] 9223372036854775808 F235 [(.agg [.lit (.int .i64 x0.Mode), .lit (.int .i64 x0.Reg), .lit (.int .i64 x0.Ext)])] = some ((T235 x0).map (n235 x0)) := by kernel_rfl
noncomputable def q235 : List SV → List Blk → Option ((SV × List Blk) × Bool)
  | [(.agg [.lit (.int .i64 c0), .lit (.int .i64 c1), .lit (.int .i64 c2)])], [] => some (n235 (GOperand.mk c0 c1 c2) (g235 (GOperand.mk c0 c1 c2)), k235 (GOperand.mk c0 c1 c2))
  | _, _ => none
theorem t235 (args : List SV) (hp : List Blk) (r : SV × List Blk) (h : q235 args hp = some (r, true)) : frzR R 100235 args hp = some r := by
  unfold q235 at h
  split at h
  · rename_i c0 c1 c2
    obtain ⟨hr, hk⟩ := Prod.mk.inj (Option.some.inj h)
    exact fnZ_c (f := 235) Q234_ok (loops_of (l := []) rfl trivial) (e235 (GOperand.mk c0 c1 c2)) hr hk (fun r h => R_fn at235 9223372036854775808 h)
  · simp at h
noncomputable def Q235 : Qt := qcons 100235 q235 Q234
theorem Q235_ok : QOk (frzR R) Q235 := qcons_ok t235 Q234_ok
/-! spec.l7Zero -/
noncomputable def T236 (x0 : GOperand) : Pt (Bool) := (.ok true (.ok true (.ok true (.ok true (.leaf ((eqI x0.Mode 0) && ((eqI x0.Reg 0) && ((eqI x0.Ext 0) && true))))))))
noncomputable def g236 (x0 : GOperand) : Bool := hid (T236 x0).val
noncomputable def k236 (x0 : GOperand) : Bool := hid (T236 x0).okv
noncomputable def n236 (x0 : GOperand) (r : Bool) : SV × List Blk := ((.one (.lit (.bool r))), [])
theorem e236 (x0 : GOperand) : fnZ Q235 [(3, [.int .i64, .int .i64, .int .i64])] [] true [] 9223372036854775808 F236 [(.agg [.lit (.int .i64 x0.Mode), .lit (.int .i64 x0.Reg), .lit (.int .i64 x0.Ext)])] = some ((T236 x0).map (n236 x0)) := by kernel_rfl
noncomputable def q236 : List SV → List Blk → Option ((SV × List Blk) × Bool)
  | [(.agg [.lit (.int .i64 c0), .lit (.int .i64 c1), .lit (.int .i64 c2)])], [] => some (n236 (GOperand.mk c0 c1 c2) (g236 (GOperand.mk c0 c1 c2)), k236 (GOperand.mk c0 c1 c2))
  | _, _ => none
theorem t236 (args : List SV) (hp : List Blk) (r : SV × List Blk) (h : q236 args hp = some (r, true)) : frzR R 100236 args hp = some r := by
  unfold q236 at h
  split at h
  · rename_i c0 c1 c2
    obtain ⟨hr, hk⟩ := Prod.mk.inj (Option.some.inj h)
    exact fnZ_c (f := 236) Q235_ok (loops_of (l := []) rfl trivial) (e236 (GOperand.mk c0 c1 c2)) hr hk (fun r h => R_fn at236 9223372036854775808 h)
  · simp at h
noncomputable def Q236 : Qt := qcons 100236 q236 Q235
theorem Q236_ok : QOk (frzR R) Q236 := qcons_ok t236 Q235_ok
/-! spec.GoodIns -/
noncomputable def y209_0 (x0 : GIns) : Bool := (bif (!(g201 x0.Size)) then true else (!(g144 x0.Reg 0 3)))
noncomputable def y209_1 (x0 : GIns) : Bool := (bif (y209_0 x0) then true else (!(g115 x0.Ea)))
noncomputable def y209_2 (x0 : GIns) : Bool := ((((k233 x0.Ea.Mode) && true) || (eqI x0.Ea.Mode 0)) && true)
noncomputable def y209_3 (x0 : GIns) : Bool := (bif (eqI x0.Ea.Mode 0) then true else (g233 x0.Ea.Mode))
noncomputable def y209_4 (x0 : GIns) : Bool := (bif (eqI x0.Size 2) then (eqI x0.Sub 0) else false)
noncomputable def y209_5 (x0 : GIns) : Bool := (bif (eqI x0.Reg 0) then (leI x0.Sub 3) else false)
noncomputable def y209_6 (x0 : GIns) : Bool := (bif (eqI x0.Size 2) then (eqI x0.Reg 0) else false)
noncomputable def y209_7 (x0 : GIns) : Bool := (bif (y209_6 x0) then (leI x0.Sub 1) else false)
noncomputable def y209_8 (x0 : GIns) : Bool := (bif (eqI x0.Sub 0) then (eqI x0.Reg 0) else false)
noncomputable def y209_9 (x0 : GIns) : Bool := (bif (y209_8 x0) then (g235 x0.Ea) else false)
noncomputable def y209_10 (x0 : GIns) : Bool := (bif (eqI x0.Size 2) then (leI x0.Sub 6) else false)
noncomputable def T209 (x0 : GIns) : Pt (Bool) := (.ok true (.ok ((k201 x0.Size) && ((((k144 x0.Reg 0 3) && true) || (!(g201 x0.Size))) && ((((k115 x0.Ea) && true) || (y209_0 x0)) && ((((k144 x0.Sub 0 7) && true) || (y209_1 x0)) && true)))) (.br (bif (bif (y209_1 x0) then true else (!(g144 x0.Sub 0 7))) then true else (bif (bif (eqI x0.Ea.Mode 7) then (eqI x0.Size 1) else false) then (gtI x0.Ea.Ext 255) else false)) (.ok true (.ok true (.ok true (.leaf false)))) (.ok true (.ok true (.ok true (.ok true (.ok true (.br (bif (eqI x0.Op 1) then (eqI x0.Op 1) else (bif (eqI x0.Op 3) then (eqI x0.Op 3) else (bif (eqI x0.Op 4) then (eqI x0.Op 4) else (bif (eqI x0.Op 5) then (eqI x0.Op 5) else (bif (eqI x0.Op 6) then (eqI x0.Op 6) else (bif (eqI x0.Op 7) then (eqI x0.Op 7) else (eqI x0.Op 8))))))) (.ok true (.ok true (.ok true (.leaf (bif (eqI x0.Sub 0) then (bif (eqI x0.Size 2) then true else (neI x0.Ea.Mode 1)) else false))))) (.ok true (.br (eqI x0.Op 2) (.ok (((y209_2 x0) || (!(eqI x0.Sub 0))) && true) (.ok true (.ok true (.leaf (bif (eqI x0.Sub 0) then (y209_3 x0) else false))))) (.ok true (.br (eqI x0.Op 9) (.ok true (.ok true (.ok true (.leaf (y209_4 x0))))) (.ok true (.br (eqI x0.Op 10) (.ok ((((k234 x0.Ea.Mode) && true) || (!(y209_4 x0))) && true) (.ok true (.ok true (.leaf (bif (y209_4 x0) then (g234 x0.Ea.Mode) else false))))) (.ok true (.br (eqI x0.Op 11) (.ok (((y209_2 x0) || (!(y209_5 x0))) && true) (.ok true (.ok true (.leaf (bif (y209_5 x0) then (y209_3 x0) else false))))) (.ok true (.br (eqI x0.Op 12) (.ok true (.ok true (.ok true (.leaf (eqI x0.Ea.Mode 0))))) (.ok true (.br (eqI x0.Op 13) (.ok true (.ok true (.ok true (.leaf (bif (bif (eqI x0.Size 2) then (leI x0.Reg 1) else false) then (eqI x0.Ea.Mode 7) else false))))) (.ok true (.br (eqI x0.Op 14) (.ok ((((k234 x0.Ea.Mode) && true) || (!(y209_7 x0))) && true) (.ok true (.ok true (.leaf (bif (y209_7 x0) then (g234 x0.Ea.Mode) else false))))) (.ok true (.ok true (.br (bif (eqI x0.Op 16) then (eqI x0.Op 16) else (eqI x0.Op 17)) (.ok true (.ok true (.ok true (.leaf (bif (y209_4 x0) then (neI x0.Ea.Mode 1) else false))))) (.ok true (.br (eqI x0.Op 18) (.ok true (.ok true (.ok true (.leaf (bif (bif (!(eqI x0.Size 2)) then (leI x0.Sub 1) else false) then (eqI x0.Ea.Mode 0) else false))))) (.ok true (.br (eqI x0.Op 19) (.ok ((((((k235 x0.Ea) && true) || (!(y209_8 x0))) && ((((((k236 x0.Ea) && true) || (!(eqI x0.Sub 1))) && true) || (y209_9 x0)) && true)) || (!(eqI x0.Size 2))) && true) (.ok true (.ok true (.leaf (bif (eqI x0.Size 2) then (bif (y209_9 x0) then true else (bif (eqI x0.Sub 1) then (g236 x0.Ea) else false)) else false))))) (.ok true (.br (eqI x0.Op 15) (.ok true (.br (eqI x0.Sub 3) (.ok ((((k235 x0.Ea) && true) || (!(y209_6 x0))) && true) (.ok true (.ok true (.leaf (bif (y209_6 x0) then (g235 x0.Ea) else false))))) (.ok ((((k236 x0.Ea) && true) || (!(y209_10 x0))) && true) (.ok true (.ok true (.leaf (bif (bif (y209_10 x0) then (g236 x0.Ea) else false) then (bif (gtI x0.Sub 3) then true else (eqI x0.Reg 0)) else false))))))) (.ok true (.ok true (.ok true (.leaf false))))))))))))))))))))))))))))))))))))
noncomputable def g209 (x0 : GIns) : Bool := hid (T209 x0).val
noncomputable def k209 (x0 : GIns) : Bool := hid (T209 x0).okv
noncomputable def n209 (x0 : GIns) (r : Bool) : SV × List Blk := ((.one (.lit (.bool r))), [])
theorem e209 (x0 : GIns) : fnZ Q236 [(6, [.int .i64]), (11, [.int .i64]), (17, [.int .i64, .int .i64, .int .i64]), (23, [.int .i64]), (30, [.int .i64]), (34, [.int .i64]), (40, [.int .i64]), (45, [.int .i64]), (49, [.int .i64]), (51, [.int .i64]), (61, [.int .i64]), (73, [.int .i64]), (88, [.int .i64]), (96, [.int .i64]), (106, [.int .i64]), (110, [.int .i64]), (130, [.int .i64]), (142, [.int .i64]), (147, [.int .i64]), (160, [.int .i64]), (173, [.int .i64]), (185, [.int .i64]), (189, [.int .i64]), (194, [.int .i64, .int .i64, .int .i64]), (199, [.int .i64]), (203, [.int .i64, .int .i64, .int .i64]), (211, [.int .i64]), (216, [.int .i64]), (221, [.int .i64, .int .i64, .int .i64]), (227, [.int .i64]), (232, [.int .i64, .int .i64, .int .i64]), (237, [.int .i64]), (241, [.int .i64])] [] true [] 9223372036854775808 F209 [(.agg [.lit (.int .i64 x0.Op), .lit (.int .i64 x0.Size), .lit (.int .i64 x0.Reg), .lit (.int .i64 x0.Ea.Mode), .lit (.int .i64 x0.Ea.Reg), .lit (.int .i64 x0.Ea.Ext), .lit (.int .i64 x0.Sub)])] = some ((T209 x0).map (n209 x0)) := by kernel_rfl
noncomputable def q209 : List SV → List Blk → Option ((SV × List Blk) × Bool)
  | [(.agg [.lit (.int .i64 c0), .lit (.int .i64 c1), .lit (.int .i64 c2), .lit (.int .i64 c3), .lit (.int .i64 c4), .lit (.int .i64 c5), .lit (.int .i64 c6)])], [] => some (n209 (GIns.mk c0 c1 c2 (GOperand.mk c3 c4 c5) c6) (g209 (GIns.mk c0 c1 c2 (GOperand.mk c3 c4 c5) c6)), k209 (GIns.mk c0 c1 c2 (GOperand.mk c3 c4 c5) c6))
  | _, _ => none
theorem t209 (args : List SV) (hp : List Blk) (r : SV × List Blk) (h : q209 args hp = some (r, true)) : frzR R 100209 args hp = some r := by
  unfold q209 at h
  split at h
  · rename_i c0 c1 c2 c3 c4 c5 c6
    obtain ⟨hr, hk⟩ := Prod.mk.inj (Option.some.inj h)
    exact fnZ_c (f := 209) Q236_ok (loops_of (l := []) rfl trivial) (e209 (GIns.mk c0 c1 c2 (GOperand.mk c3 c4 c5) c6)) hr hk (fun r h => R_fn at209 9223372036854775808 h)
  · simp at h
noncomputable def Q209 : Qt := qcons 100209 q209 Q236
theorem Q209_ok : QOk (frzR R) Q209 := qcons_ok t209 Q236_ok
/-! (*spec.l1Cur).ins -/
structure V214_0 where
  mk ::
  (b0 : Gl1Cur)
  (b1 : GIns)
  (s3 : Int)
noncomputable def y214_0_l_0 (v : V214_0) : Gl1Cur × Int := (g141 2 (g141 19 v.b0).1)
noncomputable def y214_0_l_1 (v : V214_0) : Gl1Cur × Int := (g141 4 (y214_0_l_0 v).1)
noncomputable def y214_0_l_2 (v : V214_0) : Bool := (bif (eqI (addI 1 (y214_0_l_0 v).2) 1) then (eqI (g197 (y214_0_l_1 v).1).2.Mode 7) else false)
noncomputable def y214_0_l_3 (v : V214_0) : GOperand := { (g197 (y214_0_l_1 v).1).2 with Ext := (andI (g197 (y214_0_l_1 v).1).2.Ext 255) }
noncomputable def y214_0_l_4 (v : V214_0) : Gl1Cur × Int := (g141 4 (g197 (y214_0_l_1 v).1).1)
noncomputable def y214_0_l_5 (v : V214_0) : Bool := (k141 2 (g197 (y214_0_l_1 v).1).1)
noncomputable def y214_0_l_6 (v : V214_0) : Gl1Cur × Int := (g141 2 (g197 (y214_0_l_1 v).1).1)
noncomputable def y214_0_l_7 (v : V214_0) : Bool := (((y214_0_l_5 v) && ((k141 7 (y214_0_l_6 v).1) && ((k168 (eqI (addI 1 (g141 19 v.b0).2) 12) 1) && true))) && true)
noncomputable def y214_0_l_8 (v : V214_0) : Gl1Cur × Int := (g141 7 (y214_0_l_6 v).1)
noncomputable def y214_0_l_9 (v : V214_0) : Int := (mulI (y214_0_l_6 v).2 (addI 1 (mulI (y214_0_l_8 v).2 (g168 (eqI (addI 1 (g141 19 v.b0).2) 12) 1))))
noncomputable def y214_0_l_10 (v : V214_0) : Bool := ((same (α := Int) (addI 1 (y214_0_l_0 v).2) (addI 1 (y214_0_l_0 v).2)) && ((same (α := Int) (y214_0_l_1 v).2 (y214_0_l_1 v).2) && ((same (α := Int) (g197 (y214_0_l_1 v).1).2.Mode (g197 (y214_0_l_1 v).1).2.Mode) && ((same (α := Int) (g197 (y214_0_l_1 v).1).2.Reg (g197 (y214_0_l_1 v).1).2.Reg) && ((same (α := Int) (g197 (y214_0_l_1 v).1).2.Ext (g197 (y214_0_l_1 v).1).2.Ext) && ((same (α := Int) (y214_0_l_9 v) (y214_0_l_9 v)) && true))))))
noncomputable def y214_0_l_11 (v : V214_0) : Bool := (((same (α := Int) v.b1.Op v.b1.Op) && ((same (α := Int) v.b1.Size v.b1.Size) && ((same (α := Int) v.b1.Reg v.b1.Reg) && ((same (α := Int) v.b1.Ea.Mode v.b1.Ea.Mode) && ((same (α := Int) v.b1.Ea.Reg v.b1.Ea.Reg) && ((same (α := Int) v.b1.Ea.Ext v.b1.Ea.Ext) && ((same (α := Int) v.b1.Sub v.b1.Sub) && true))))))) && (((same (α := Int) (addI 1 (g141 19 v.b0).2) (addI 1 (g141 19 v.b0).2)) && (y214_0_l_10 v)) && true))
noncomputable def y214_0_l_12 (v : V214_0) : Bool := (((same (α := Int) v.s3 v.s3) && true) && ((((same (α := Bool) true true) && (sameR (y214_0_l_8 v).1.fcode (y214_0_l_8 v).1.fcode)) && ((same (α := Int) (y214_0_l_8 v).1.fat (y214_0_l_8 v).1.fat) && ((same (α := Int) (y214_0_l_8 v).1.fseed (y214_0_l_8 v).1.fseed) && true))) && (y214_0_l_11 v)))
noncomputable def y214_0_l_13 (v : V214_0) : Gl1Cur × Int := (g141 4 (y214_0_l_8 v).1)
noncomputable def y214_0_l_14 (v : V214_0) : Bool := ((k209 (GIns.mk (addI 1 (g141 19 v.b0).2) 1 (y214_0_l_1 v).2 (GOperand.mk 0 (y214_0_l_13 v).2 0) (andI (y214_0_l_9 v) 7))) && true)
noncomputable def y214_0_l_15 (v : V214_0) : Bool := (g209 (GIns.mk (addI 1 (g141 19 v.b0).2) 1 (y214_0_l_1 v).2 (GOperand.mk 0 (y214_0_l_13 v).2 0) (andI (y214_0_l_9 v) 7)))
noncomputable def y214_0_l_16 (v : V214_0) : V214_0 := (V214_0.mk (y214_0_l_13 v).1 v.b1 (addI v.s3 1))
noncomputable def y214_0_l_17 (v : V214_0) : Bool := ((k209 (GIns.mk (addI 1 (g141 19 v.b0).2) (addI 1 (y214_0_l_0 v).2) (y214_0_l_1 v).2 (GOperand.mk 0 (y214_0_l_13 v).2 0) (andI (y214_0_l_9 v) 7))) && true)
noncomputable def y214_0_l_18 (v : V214_0) : Bool := (g209 (GIns.mk (addI 1 (g141 19 v.b0).2) (addI 1 (y214_0_l_0 v).2) (y214_0_l_1 v).2 (GOperand.mk 0 (y214_0_l_13 v).2 0) (andI (y214_0_l_9 v) 7)))
noncomputable def y214_0_l_19 (v : V214_0) : Gl1Cur × Int := (g141 8 (y214_0_l_6 v).1)
noncomputable def y214_0_l_20 (v : V214_0) : Gl1Cur × Int := (g133 [(rowI 2), (rowI 4), (rowI 6), (rowI 8), (rowI 65526), (rowI 65530), (rowI 0), (rowI 3)] (y214_0_l_19 v).1)
noncomputable def y214_0_l_21 (v : V214_0) : Gl1Cur × Int := (g133 [(rowI 0), (rowI 1), (rowI 2), (rowI 2), (rowI 3), (rowI 4), (rowI 5), (rowI 6)] (g197 (y214_0_l_1 v).1).1)
noncomputable def y214_0_l_22 (v : V214_0) : Gl1Cur × Int := (g141 4 (y214_0_l_21 v).1)
noncomputable def y214_0_l_23 (v : V214_0) : Gl1Cur × Int := (g133 [(rowI 0), (rowI 256), (rowI 512), (rowI 1023)] (y214_0_l_22 v).1)
noncomputable def y214_0_l_24 (v : V214_0) : Bool := ((k209 (GIns.mk 15 2 (y214_0_l_22 v).2 (GOperand.mk 0 0 0) (y214_0_l_21 v).2)) && true)
noncomputable def y214_0_l_25 (v : V214_0) : Bool := (g209 (GIns.mk 15 2 (y214_0_l_22 v).2 (GOperand.mk 0 0 0) (y214_0_l_21 v).2))
noncomputable def y214_0_l_26 (v : V214_0) : Gl1Cur × Int := (g133 [(rowI 0), (rowI 256), (rowI 512), (rowI 1023)] (y214_0_l_21 v).1)
noncomputable def y214_0_l_27 (v : V214_0) : Bool := ((k209 (GIns.mk 15 2 0 (GOperand.mk 0 0 0) (y214_0_l_21 v).2)) && true)
noncomputable def y214_0_l_28 (v : V214_0) : Bool := (g209 (GIns.mk 15 2 0 (GOperand.mk 0 0 0) (y214_0_l_21 v).2))
noncomputable def y214_0_l_29 (v : V214_0) : Gl1Cur × Int := (g133 [(rowI 0), (rowI 256), (rowI 480), (rowI 768), (rowI 31)] (g197 (y214_0_l_1 v).1).1)
noncomputable def y214_0_l_30 (v : V214_0) : Gl1Cur × Bool := (g167 2 (y214_0_l_29 v).1)
noncomputable def y214_0_l_31 (v : V214_0) : Gl1Cur × Int := (g141 4 (y214_0_l_30 v).1)
noncomputable def y214_0_l_32 (v : V214_0) : Bool := ((k209 (GIns.mk 19 2 (y214_0_l_31 v).2 (GOperand.mk 0 0 0) 1)) && true)
noncomputable def y214_0_l_33 (v : V214_0) : Bool := (g209 (GIns.mk 19 2 (y214_0_l_31 v).2 (GOperand.mk 0 0 0) 1))
noncomputable def y214_0_l_34 (v : V214_0) : V214_0 := (V214_0.mk (g197 (y214_0_l_1 v).1).1 v.b1 (addI v.s3 1))
noncomputable def N214_0 (v : V214_0) : Pt (Option V214_0) := (.ok true (.br (ltI v.s3 6) (.ok ((k141 19 v.b0) && ((k141 2 (g141 19 v.b0).1) && ((k141 4 (y214_0_l_0 v).1) && ((k197 (y214_0_l_1 v).1) && true)))) (.ok true (.ok true (.br (eqI (addI 1 (g141 19 v.b0).2) 11) (.ok true (.ok ((k141 4 (g197 (y214_0_l_1 v).1).1) && true) (.ok true (.br (y214_0_l_2 v) (.ok true (.ok ((k209 (GIns.mk (addI 1 (g141 19 v.b0).2) (addI 1 (y214_0_l_0 v).2) 0 (y214_0_l_3 v) (y214_0_l_4 v).2)) && true) (.br (g209 (GIns.mk (addI 1 (g141 19 v.b0).2) (addI 1 (y214_0_l_0 v).2) 0 (y214_0_l_3 v) (y214_0_l_4 v).2)) (.ok true (.leaf none)) (.ok true (.ok true (.leaf (some (V214_0.mk (y214_0_l_4 v).1 v.b1 (addI v.s3 1))))))))) (.ok ((k209 (GIns.mk (addI 1 (g141 19 v.b0).2) (addI 1 (y214_0_l_0 v).2) 0 (g197 (y214_0_l_1 v).1).2 (y214_0_l_4 v).2)) && true) (.br (g209 (GIns.mk (addI 1 (g141 19 v.b0).2) (addI 1 (y214_0_l_0 v).2) 0 (g197 (y214_0_l_1 v).1).2 (y214_0_l_4 v).2)) (.ok true (.leaf none)) (.ok true (.ok true (.leaf (some (V214_0.mk (y214_0_l_4 v).1 v.b1 (addI v.s3 1)))))))))))) (.ok true (.ok true (.br (bif (eqI (addI 1 (g141 19 v.b0).2) 12) then (eqI (addI 1 (g141 19 v.b0).2) 12) else (eqI (addI 1 (g141 19 v.b0).2) 18)) (.ok ((y214_0_l_7 v) && (((y214_0_l_7 v) && ((y214_0_l_7 v) && (y214_0_l_12 v))) && (y214_0_l_12 v))) (.ok true (.ok ((k141 4 (y214_0_l_8 v).1) && true) (.ok true (.br (eqI (addI 1 (g141 19 v.b0).2) 18) (.ok true (.ok true (.br false (.ok true (.ok (y214_0_l_14 v) (.br (y214_0_l_15 v) (.ok true (.leaf none)) (.ok true (.ok true (.leaf (some (y214_0_l_16 v)))))))) (.ok (y214_0_l_14 v) (.br (y214_0_l_15 v) (.ok true (.leaf none)) (.ok true (.ok true (.leaf (some (y214_0_l_16 v)))))))))) (.ok true (.br (bif (eqI (addI 1 (y214_0_l_0 v).2) 1) then false else false) (.ok true (.ok (y214_0_l_17 v) (.br (y214_0_l_18 v) (.ok true (.leaf none)) (.ok true (.ok true (.leaf (some (y214_0_l_16 v)))))))) (.ok (y214_0_l_17 v) (.br (y214_0_l_18 v) (.ok true (.leaf none)) (.ok true (.ok true (.leaf (some (y214_0_l_16 v)))))))))))))) (.ok true (.br (eqI (addI 1 (g141 19 v.b0).2) 13) (.ok ((y214_0_l_5 v) && ((k141 8 (y214_0_l_6 v).1) && ((k133 [(rowI 2), (rowI 4), (rowI 6), (rowI 8), (rowI 65526), (rowI 65530), (rowI 0), (rowI 3)] (y214_0_l_19 v).1) && true))) (.ok true (.br false (.ok true (.ok ((k209 (GIns.mk 13 2 (y214_0_l_6 v).2 (GOperand.mk 7 0 (andI (y214_0_l_20 v).2 255)) (y214_0_l_19 v).2)) && true) (.br (g209 (GIns.mk 13 2 (y214_0_l_6 v).2 (GOperand.mk 7 0 (andI (y214_0_l_20 v).2 255)) (y214_0_l_19 v).2)) (.ok true (.leaf none)) (.ok true (.ok true (.leaf (some (V214_0.mk (y214_0_l_20 v).1 v.b1 (addI v.s3 1))))))))) (.ok ((k209 (GIns.mk 13 2 (y214_0_l_6 v).2 (GOperand.mk 7 0 (y214_0_l_20 v).2) (y214_0_l_19 v).2)) && true) (.br (g209 (GIns.mk 13 2 (y214_0_l_6 v).2 (GOperand.mk 7 0 (y214_0_l_20 v).2) (y214_0_l_19 v).2)) (.ok true (.leaf none)) (.ok true (.ok true (.leaf (some (V214_0.mk (y214_0_l_20 v).1 v.b1 (addI v.s3 1))))))))))) (.ok true (.br (eqI (addI 1 (g141 19 v.b0).2) 14) (.ok true (.ok true (.ok ((y214_0_l_5 v) && true) (.ok true (.br false (.ok true (.ok ((k209 (GIns.mk (addI 1 (g141 19 v.b0).2) 2 0 (y214_0_l_3 v) (y214_0_l_6 v).2)) && true) (.br (g209 (GIns.mk (addI 1 (g141 19 v.b0).2) 2 0 (y214_0_l_3 v) (y214_0_l_6 v).2)) (.ok true (.leaf none)) (.ok true (.ok true (.leaf (some (V214_0.mk (y214_0_l_6 v).1 v.b1 (addI v.s3 1))))))))) (.ok ((k209 (GIns.mk (addI 1 (g141 19 v.b0).2) 2 0 (g197 (y214_0_l_1 v).1).2 (y214_0_l_6 v).2)) && true) (.br (g209 (GIns.mk (addI 1 (g141 19 v.b0).2) 2 0 (g197 (y214_0_l_1 v).1).2 (y214_0_l_6 v).2)) (.ok true (.leaf none)) (.ok true (.ok true (.leaf (some (V214_0.mk (y214_0_l_6 v).1 v.b1 (addI v.s3 1))))))))))))) (.ok true (.br (eqI (addI 1 (g141 19 v.b0).2) 15) (.ok ((k133 [(rowI 0), (rowI 1), (rowI 2), (rowI 2), (rowI 3), (rowI 4), (rowI 5), (rowI 6)] (g197 (y214_0_l_1 v).1).1) && true) (.ok true (.br (gtI (y214_0_l_21 v).2 3) (.ok ((k141 4 (y214_0_l_21 v).1) && true) (.ok true (.br (eqI (y214_0_l_21 v).2 3) (.ok ((k133 [(rowI 0), (rowI 256), (rowI 512), (rowI 1023)] (y214_0_l_22 v).1) && true) (.ok true (.br false (.ok true (.ok ((k209 (GIns.mk 15 2 (y214_0_l_22 v).2 (GOperand.mk 7 0 (andI (y214_0_l_23 v).2 255)) (y214_0_l_21 v).2)) && true) (.br (g209 (GIns.mk 15 2 (y214_0_l_22 v).2 (GOperand.mk 7 0 (andI (y214_0_l_23 v).2 255)) (y214_0_l_21 v).2)) (.ok true (.leaf none)) (.ok true (.ok true (.leaf (some (V214_0.mk (y214_0_l_23 v).1 v.b1 (addI v.s3 1))))))))) (.ok ((k209 (GIns.mk 15 2 (y214_0_l_22 v).2 (GOperand.mk 7 0 (y214_0_l_23 v).2) (y214_0_l_21 v).2)) && true) (.br (g209 (GIns.mk 15 2 (y214_0_l_22 v).2 (GOperand.mk 7 0 (y214_0_l_23 v).2) (y214_0_l_21 v).2)) (.ok true (.leaf none)) (.ok true (.ok true (.leaf (some (V214_0.mk (y214_0_l_23 v).1 v.b1 (addI v.s3 1))))))))))) (.ok true (.br false (.ok true (.ok (y214_0_l_24 v) (.br (y214_0_l_25 v) (.ok true (.leaf none)) (.ok true (.ok true (.leaf (some (V214_0.mk (y214_0_l_22 v).1 v.b1 (addI v.s3 1))))))))) (.ok (y214_0_l_24 v) (.br (y214_0_l_25 v) (.ok true (.leaf none)) (.ok true (.ok true (.leaf (some (V214_0.mk (y214_0_l_22 v).1 v.b1 (addI v.s3 1))))))))))))) (.ok true (.br (eqI (y214_0_l_21 v).2 3) (.ok ((k133 [(rowI 0), (rowI 256), (rowI 512), (rowI 1023)] (y214_0_l_21 v).1) && true) (.ok true (.br false (.ok true (.ok ((k209 (GIns.mk 15 2 0 (GOperand.mk 7 0 (andI (y214_0_l_26 v).2 255)) (y214_0_l_21 v).2)) && true) (.br (g209 (GIns.mk 15 2 0 (GOperand.mk 7 0 (andI (y214_0_l_26 v).2 255)) (y214_0_l_21 v).2)) (.ok true (.leaf none)) (.ok true (.ok true (.leaf (some (V214_0.mk (y214_0_l_26 v).1 v.b1 (addI v.s3 1))))))))) (.ok ((k209 (GIns.mk 15 2 0 (GOperand.mk 7 0 (y214_0_l_26 v).2) (y214_0_l_21 v).2)) && true) (.br (g209 (GIns.mk 15 2 0 (GOperand.mk 7 0 (y214_0_l_26 v).2) (y214_0_l_21 v).2)) (.ok true (.leaf none)) (.ok true (.ok true (.leaf (some (V214_0.mk (y214_0_l_26 v).1 v.b1 (addI v.s3 1))))))))))) (.ok true (.br false (.ok true (.ok (y214_0_l_27 v) (.br (y214_0_l_28 v) (.ok true (.leaf none)) (.ok true (.ok true (.leaf (some (V214_0.mk (y214_0_l_21 v).1 v.b1 (addI v.s3 1))))))))) (.ok (y214_0_l_27 v) (.br (y214_0_l_28 v) (.ok true (.leaf none)) (.ok true (.ok true (.leaf (some (V214_0.mk (y214_0_l_21 v).1 v.b1 (addI v.s3 1))))))))))))))) (.ok true (.br (eqI (addI 1 (g141 19 v.b0).2) 19) (.ok ((k133 [(rowI 0), (rowI 256), (rowI 480), (rowI 768), (rowI 31)] (g197 (y214_0_l_1 v).1).1) && true) (.ok ((k167 2 (y214_0_l_29 v).1) && true) (.br (y214_0_l_30 v).2 (.ok ((k141 4 (y214_0_l_30 v).1) && true) (.ok true (.br false (.ok true (.ok (y214_0_l_32 v) (.br (y214_0_l_33 v) (.ok true (.leaf none)) (.ok true (.ok true (.leaf (some (V214_0.mk (y214_0_l_31 v).1 v.b1 (addI v.s3 1))))))))) (.ok (y214_0_l_32 v) (.br (y214_0_l_33 v) (.ok true (.leaf none)) (.ok true (.ok true (.leaf (some (V214_0.mk (y214_0_l_31 v).1 v.b1 (addI v.s3 1))))))))))) (.ok true (.br false (.ok true (.ok ((k209 (GIns.mk 19 2 0 (GOperand.mk 7 0 (andI (y214_0_l_29 v).2 255)) 0)) && true) (.br (g209 (GIns.mk 19 2 0 (GOperand.mk 7 0 (andI (y214_0_l_29 v).2 255)) 0)) (.ok true (.leaf none)) (.ok true (.ok true (.leaf (some (V214_0.mk (y214_0_l_30 v).1 v.b1 (addI v.s3 1))))))))) (.ok ((k209 (GIns.mk 19 2 0 (GOperand.mk 7 0 (y214_0_l_29 v).2) 0)) && true) (.br (g209 (GIns.mk 19 2 0 (GOperand.mk 7 0 (y214_0_l_29 v).2) 0)) (.ok true (.leaf none)) (.ok true (.ok true (.leaf (some (V214_0.mk (y214_0_l_30 v).1 v.b1 (addI v.s3 1))))))))))))) (.ok true (.ok true (.br (bif (eqI (addI 1 (g141 19 v.b0).2) 16) then (eqI (addI 1 (g141 19 v.b0).2) 16) else (bif (eqI (addI 1 (g141 19 v.b0).2) 17) then (eqI (addI 1 (g141 19 v.b0).2) 17) else (bif (eqI (addI 1 (g141 19 v.b0).2) 9) then (eqI (addI 1 (g141 19 v.b0).2) 9) else (eqI (addI 1 (g141 19 v.b0).2) 10)))) (.ok true (.ok true (.br false (.ok true (.ok ((k209 (GIns.mk (addI 1 (g141 19 v.b0).2) 2 (y214_0_l_1 v).2 (y214_0_l_3 v) 0)) && true) (.br (g209 (GIns.mk (addI 1 (g141 19 v.b0).2) 2 (y214_0_l_1 v).2 (y214_0_l_3 v) 0)) (.ok true (.leaf none)) (.ok true (.ok true (.leaf (some (y214_0_l_34 v)))))))) (.ok ((k209 (GIns.mk (addI 1 (g141 19 v.b0).2) 2 (y214_0_l_1 v).2 (g197 (y214_0_l_1 v).1).2 0)) && true) (.br (g209 (GIns.mk (addI 1 (g141 19 v.b0).2) 2 (y214_0_l_1 v).2 (g197 (y214_0_l_1 v).1).2 0)) (.ok true (.leaf none)) (.ok true (.ok true (.leaf (some (y214_0_l_34 v)))))))))) (.ok true (.br (y214_0_l_2 v) (.ok true (.ok ((k209 (GIns.mk (addI 1 (g141 19 v.b0).2) (addI 1 (y214_0_l_0 v).2) (y214_0_l_1 v).2 (y214_0_l_3 v) 0)) && true) (.br (g209 (GIns.mk (addI 1 (g141 19 v.b0).2) (addI 1 (y214_0_l_0 v).2) (y214_0_l_1 v).2 (y214_0_l_3 v) 0)) (.ok true (.leaf none)) (.ok true (.ok true (.leaf (some (y214_0_l_34 v)))))))) (.ok ((k209 (GIns.mk (addI 1 (g141 19 v.b0).2) (addI 1 (y214_0_l_0 v).2) (y214_0_l_1 v).2 (g197 (y214_0_l_1 v).1).2 0)) && true) (.br (g209 (GIns.mk (addI 1 (g141 19 v.b0).2) (addI 1 (y214_0_l_0 v).2) (y214_0_l_1 v).2 (g197 (y214_0_l_1 v).1).2 0)) (.ok true (.leaf none)) (.ok true (.ok true (.leaf (some (y214_0_l_34 v))))))))))))))))))))))))))) (.leaf none)))
noncomputable def s214_0 (v : V214_0) : St := ⟨[(0, (.one (.ptr 0 0 0))), (2, (.one (.ptr 1 0 0))), (3, (.one (.lit (.int .i64 v.s3))))], [.box [.imm true 1 v.b0.fcode, .lit (.int .i64 v.b0.fat), .lit (.int .u64 v.b0.fseed)], .box [.lit (.int .i64 v.b1.Op), .lit (.int .i64 v.b1.Size), .lit (.int .i64 v.b1.Reg), .lit (.int .i64 v.b1.Ea.Mode), .lit (.int .i64 v.b1.Ea.Reg), .lit (.int .i64 v.b1.Ea.Ext), .lit (.int .i64 v.b1.Sub)]]⟩
def u214_0 : St → Option (V214_0 × Bool)
  | ⟨[(0, (.one (.ptr 0 0 0))), (2, (.one (.ptr 1 0 0))), (3, (.one (.lit (.int .i64 c10))))], [.box [.imm true 1 c0, .lit (.int .i64 c1), .lit (.int .u64 c2)], .box [.lit (.int .i64 c3), .lit (.int .i64 c4), .lit (.int .i64 c5), .lit (.int .i64 c6), .lit (.int .i64 c7), .lit (.int .i64 c8), .lit (.int .i64 c9)]]⟩ => some ((V214_0.mk (Gl1Cur.mk c0 c1 c2) (GIns.mk c3 c4 c5 (GOperand.mk c6 c7 c8) c9) c10), true)
  | _ => none
theorem hN214_0 (v : V214_0) : ((evp Q209 [(21, [.int .i64]), (36, [.int .i64]), (44, [.int .i64]), (52, [.int .i64]), (80, [.int .i64]), (86, [.int .i64]), (112, [.int .i64]), (117, [.int .i64]), (122, [.int .i64]), (126, [.int .i64, .int .i64, .int .i64, .int .i64, .int .i64, .int .i64, .int .i64]), (128, [.int .i64, .int .i64, .int .i64, .int .i64, .int .i64, .int .i64, .int .i64])] [] true [] 1 9223372036854775808 F214b0 (s214_0 v)).bind (stpT true false 1 [0, 2, 3])) = some ((N214_0 v).map (Option.map s214_0)) := by kernel_rfl
theorem hu214_0 (σ : St) (v : V214_0) (h : u214_0 σ = some (v, true)) : σ = s214_0 v := by
  unfold u214_0 at h
  split at h
  · obtain ⟨hr, hk⟩ := Prod.mk.inj (Option.some.inj h)
    rw [← hr]
    rfl
  · simp at h
theorem lt214_0 : TellsP (lqP true false 1 [0, 2, 3] (evp Q209 [(21, [.int .i64]), (36, [.int .i64]), (44, [.int .i64]), (52, [.int .i64]), (80, [.int .i64]), (86, [.int .i64]), (112, [.int .i64]), (117, [.int .i64]), (122, [.int .i64]), (126, [.int .i64, .int .i64, .int .i64, .int .i64, .int .i64, .int .i64, .int .i64]), (128, [.int .i64, .int .i64, .int .i64, .int .i64, .int .i64, .int .i64, .int .i64])] [] true [] 1 9223372036854775808 F214b0) u214_0 s214_0 N214_0 9223372036854775808) (evc R 1 9223372036854775808 (.loop [0, 2, 3] F214b0)) := lqP_tells (evp_tells Q209_ok (loops_of (l := []) (by kernel_rfl) trivial)) hu214_0 hN214_0
noncomputable def lq214_0 : Lp := (5, lqP true false 1 [0, 2, 3] (evp Q209 [(21, [.int .i64]), (36, [.int .i64]), (44, [.int .i64]), (52, [.int .i64]), (80, [.int .i64]), (86, [.int .i64]), (112, [.int .i64]), (117, [.int .i64]), (122, [.int .i64]), (126, [.int .i64, .int .i64, .int .i64, .int .i64, .int .i64, .int .i64, .int .i64]), (128, [.int .i64, .int .i64, .int .i64, .int .i64, .int .i64, .int .i64, .int .i64])] [] true [] 1 9223372036854775808 F214b0) u214_0 s214_0 N214_0 9223372036854775808) :: []
noncomputable def w214_0 (v : V214_0) : V214_0 := (hid (loopV N214_0 9223372036854775808 v)).getD v
noncomputable def i214_0 (v : V214_0) : Bool := (hid (loopV N214_0 9223372036854775808 v)).isSome
noncomputable def y214_0 (x0 : Gl1Cur) : V214_0 := (w214_0 (V214_0.mk x0 (GIns.mk 0 0 0 (GOperand.mk 0 0 0) 0) 0))
noncomputable def y214_1 (x0 : Gl1Cur) : Gl1Cur × Int := (g141 2 (g141 19 (y214_0 x0).b0).1)
noncomputable def y214_2 (x0 : Gl1Cur) : Gl1Cur × GOperand := (g197 (g141 4 (y214_1 x0).1).1)
noncomputable def y214_3 (x0 : Gl1Cur) : Bool := (bif (eqI (addI 1 (y214_1 x0).2) 1) then (eqI (y214_2 x0).2.Mode 7) else false)
noncomputable def y214_4 (x0 : Gl1Cur) : GOperand := { (y214_2 x0).2 with Ext := (andI (y214_2 x0).2.Ext 255) }
noncomputable def y214_5 (x0 : Gl1Cur) : Bool := (eqI (addI 1 (g141 19 (y214_0 x0).b0).2) 12)
noncomputable def y214_6 (x0 : Gl1Cur) : Bool := (eqI (addI 1 (g141 19 (y214_0 x0).b0).2) 18)
noncomputable def y214_7 (x0 : Gl1Cur) : Gl1Cur × Int := (g141 7 (g141 2 (y214_2 x0).1).1)
noncomputable def y214_8 (x0 : Gl1Cur) : Int := (andI (mulI (g141 2 (y214_2 x0).1).2 (addI 1 (mulI (y214_7 x0).2 (g168 (y214_5 x0) 1)))) 7)
noncomputable def y214_9 (x0 : Gl1Cur) : Gl1Cur × Int := (g141 8 (g141 2 (y214_2 x0).1).1)
noncomputable def y214_10 (x0 : Gl1Cur) : Gl1Cur × Int := (g133 [(rowI 2), (rowI 4), (rowI 6), (rowI 8), (rowI 65526), (rowI 65530), (rowI 0), (rowI 3)] (y214_9 x0).1)
noncomputable def y214_11 (x0 : Gl1Cur) : Gl1Cur × Int := (g133 [(rowI 0), (rowI 1), (rowI 2), (rowI 2), (rowI 3), (rowI 4), (rowI 5), (rowI 6)] (y214_2 x0).1)
noncomputable def y214_12 (x0 : Gl1Cur) : Gl1Cur × Int := (g133 [(rowI 0), (rowI 256), (rowI 512), (rowI 1023)] (g141 4 (y214_11 x0).1).1)
noncomputable def y214_13 (x0 : Gl1Cur) : Gl1Cur × Int := (g133 [(rowI 0), (rowI 256), (rowI 512), (rowI 1023)] (y214_11 x0).1)
noncomputable def y214_14 (x0 : Gl1Cur) : Gl1Cur × Int := (g133 [(rowI 0), (rowI 256), (rowI 480), (rowI 768), (rowI 31)] (y214_2 x0).1)
noncomputable def y214_15 (x0 : Gl1Cur) : Gl1Cur × Int := (g141 4 (g167 2 (y214_14 x0).1).1)
noncomputable def y214_16 (x0 : Gl1Cur) : Bool := (eqI (addI 1 (g141 19 (y214_0 x0).b0).2) 16)
noncomputable def y214_17 (x0 : Gl1Cur) : Bool := (eqI (addI 1 (g141 19 (y214_0 x0).b0).2) 17)
noncomputable def y214_18 (x0 : Gl1Cur) : Bool := (eqI (addI 1 (g141 19 (y214_0 x0).b0).2) 9)
noncomputable def T214 (x0 : Gl1Cur) : Pt (Gl1Cur × GIns) := (.ok true (.ok true (.ok true (.ok true (.ok (i214_0 (V214_0.mk x0 (GIns.mk 0 0 0 (GOperand.mk 0 0 0) 0) 0)) (.br (ltI (y214_0 x0).s3 6) (.br (eqI (addI 1 (g141 19 (y214_0 x0).b0).2) 11) (.br (y214_3 x0) (.ok true (.leaf ((g141 4 (y214_2 x0).1).1, (GIns.mk (addI 1 (g141 19 (y214_0 x0).b0).2) (addI 1 (y214_1 x0).2) 0 (y214_4 x0) (g141 4 (y214_2 x0).1).2)))) (.ok true (.leaf ((g141 4 (y214_2 x0).1).1, (GIns.mk (addI 1 (g141 19 (y214_0 x0).b0).2) (addI 1 (y214_1 x0).2) 0 (y214_2 x0).2 (g141 4 (y214_2 x0).1).2))))) (.br (bif (y214_5 x0) then (y214_5 x0) else (y214_6 x0)) (.br (y214_6 x0) (.br false (.ok true (.leaf ((g141 4 (y214_7 x0).1).1, (GIns.mk (addI 1 (g141 19 (y214_0 x0).b0).2) 1 (g141 4 (y214_1 x0).1).2 (GOperand.mk 0 (g141 4 (y214_7 x0).1).2 0) (y214_8 x0))))) (.ok true (.leaf ((g141 4 (y214_7 x0).1).1, (GIns.mk (addI 1 (g141 19 (y214_0 x0).b0).2) 1 (g141 4 (y214_1 x0).1).2 (GOperand.mk 0 (g141 4 (y214_7 x0).1).2 0) (y214_8 x0)))))) (.br (bif (eqI (addI 1 (y214_1 x0).2) 1) then false else false) (.ok true (.leaf ((g141 4 (y214_7 x0).1).1, (GIns.mk (addI 1 (g141 19 (y214_0 x0).b0).2) (addI 1 (y214_1 x0).2) (g141 4 (y214_1 x0).1).2 (GOperand.mk 0 (g141 4 (y214_7 x0).1).2 0) (y214_8 x0))))) (.ok true (.leaf ((g141 4 (y214_7 x0).1).1, (GIns.mk (addI 1 (g141 19 (y214_0 x0).b0).2) (addI 1 (y214_1 x0).2) (g141 4 (y214_1 x0).1).2 (GOperand.mk 0 (g141 4 (y214_7 x0).1).2 0) (y214_8 x0))))))) (.br (eqI (addI 1 (g141 19 (y214_0 x0).b0).2) 13) (.br false (.ok true (.leaf ((y214_10 x0).1, (GIns.mk 13 2 (g141 2 (y214_2 x0).1).2 (GOperand.mk 7 0 (andI (y214_10 x0).2 255)) (y214_9 x0).2)))) (.ok true (.leaf ((y214_10 x0).1, (GIns.mk 13 2 (g141 2 (y214_2 x0).1).2 (GOperand.mk 7 0 (y214_10 x0).2) (y214_9 x0).2))))) (.br (eqI (addI 1 (g141 19 (y214_0 x0).b0).2) 14) (.br false (.ok true (.leaf ((g141 2 (y214_2 x0).1).1, (GIns.mk (addI 1 (g141 19 (y214_0 x0).b0).2) 2 0 (y214_4 x0) (g141 2 (y214_2 x0).1).2)))) (.ok true (.leaf ((g141 2 (y214_2 x0).1).1, (GIns.mk (addI 1 (g141 19 (y214_0 x0).b0).2) 2 0 (y214_2 x0).2 (g141 2 (y214_2 x0).1).2))))) (.br (eqI (addI 1 (g141 19 (y214_0 x0).b0).2) 15) (.br (gtI (y214_11 x0).2 3) (.br (eqI (y214_11 x0).2 3) (.br false (.ok true (.leaf ((y214_12 x0).1, (GIns.mk 15 2 (g141 4 (y214_11 x0).1).2 (GOperand.mk 7 0 (andI (y214_12 x0).2 255)) (y214_11 x0).2)))) (.ok true (.leaf ((y214_12 x0).1, (GIns.mk 15 2 (g141 4 (y214_11 x0).1).2 (GOperand.mk 7 0 (y214_12 x0).2) (y214_11 x0).2))))) (.br false (.ok true (.leaf ((g141 4 (y214_11 x0).1).1, (GIns.mk 15 2 (g141 4 (y214_11 x0).1).2 (GOperand.mk 0 0 0) (y214_11 x0).2)))) (.ok true (.leaf ((g141 4 (y214_11 x0).1).1, (GIns.mk 15 2 (g141 4 (y214_11 x0).1).2 (GOperand.mk 0 0 0) (y214_11 x0).2)))))) (.br (eqI (y214_11 x0).2 3) (.br false (.ok true (.leaf ((y214_13 x0).1, (GIns.mk 15 2 0 (GOperand.mk 7 0 (andI (y214_13 x0).2 255)) (y214_11 x0).2)))) (.ok true (.leaf ((y214_13 x0).1, (GIns.mk 15 2 0 (GOperand.mk 7 0 (y214_13 x0).2) (y214_11 x0).2))))) (.br false (.ok true (.leaf ((y214_11 x0).1, (GIns.mk 15 2 0 (GOperand.mk 0 0 0) (y214_11 x0).2)))) (.ok true (.leaf ((y214_11 x0).1, (GIns.mk 15 2 0 (GOperand.mk 0 0 0) (y214_11 x0).2))))))) (.br (eqI (addI 1 (g141 19 (y214_0 x0).b0).2) 19) (.br (g167 2 (y214_14 x0).1).2 (.br false (.ok true (.leaf ((y214_15 x0).1, (GIns.mk 19 2 (y214_15 x0).2 (GOperand.mk 0 0 0) 1)))) (.ok true (.leaf ((y214_15 x0).1, (GIns.mk 19 2 (y214_15 x0).2 (GOperand.mk 0 0 0) 1))))) (.br false (.ok true (.leaf ((g167 2 (y214_14 x0).1).1, (GIns.mk 19 2 0 (GOperand.mk 7 0 (andI (y214_14 x0).2 255)) 0)))) (.ok true (.leaf ((g167 2 (y214_14 x0).1).1, (GIns.mk 19 2 0 (GOperand.mk 7 0 (y214_14 x0).2) 0)))))) (.br (bif (y214_16 x0) then (y214_16 x0) else (bif (y214_17 x0) then (y214_17 x0) else (bif (y214_18 x0) then (y214_18 x0) else (eqI (addI 1 (g141 19 (y214_0 x0).b0).2) 10)))) (.br false (.ok true (.leaf ((y214_2 x0).1, (GIns.mk (addI 1 (g141 19 (y214_0 x0).b0).2) 2 (g141 4 (y214_1 x0).1).2 (y214_4 x0) 0)))) (.ok true (.leaf ((y214_2 x0).1, (GIns.mk (addI 1 (g141 19 (y214_0 x0).b0).2) 2 (g141 4 (y214_1 x0).1).2 (y214_2 x0).2 0))))) (.br (y214_3 x0) (.ok true (.leaf ((y214_2 x0).1, (GIns.mk (addI 1 (g141 19 (y214_0 x0).b0).2) (addI 1 (y214_1 x0).2) (g141 4 (y214_1 x0).1).2 (y214_4 x0) 0)))) (.ok true (.leaf ((y214_2 x0).1, (GIns.mk (addI 1 (g141 19 (y214_0 x0).b0).2) (addI 1 (y214_1 x0).2) (g141 4 (y214_1 x0).1).2 (y214_2 x0).2 0)))))))))))) (.ok true (.ok true (.leaf ((y214_0 x0).b0, (GIns.mk 15 2 0 (GOperand.mk 0 0 0) 2)))))))))))
noncomputable def g214 (x0 : Gl1Cur) : Gl1Cur × GIns := hid (T214 x0).val
noncomputable def k214 (x0 : Gl1Cur) : Bool := hid (T214 x0).okv
noncomputable def n214 (x0 : Gl1Cur) (r : Gl1Cur × GIns) : SV × List Blk := ((.agg [.lit (.int .i64 r.2.Op), .lit (.int .i64 r.2.Size), .lit (.int .i64 r.2.Reg), .lit (.int .i64 r.2.Ea.Mode), .lit (.int .i64 r.2.Ea.Reg), .lit (.int .i64 r.2.Ea.Ext), .lit (.int .i64 r.2.Sub)]), [.box [.imm true 1 r.1.fcode, .lit (.int .i64 r.1.fat), .lit (.int .u64 r.1.fseed)]])
theorem e214 (x0 : Gl1Cur) : fnP Q209 [(21, [.int .i64]), (36, [.int .i64]), (44, [.int .i64]), (52, [.int .i64]), (80, [.int .i64]), (86, [.int .i64]), (112, [.int .i64]), (117, [.int .i64]), (122, [.int .i64]), (126, [.int .i64, .int .i64, .int .i64, .int .i64, .int .i64, .int .i64, .int .i64]), (128, [.int .i64, .int .i64, .int .i64, .int .i64, .int .i64, .int .i64, .int .i64])] [] true lq214_0 9223372036854775808 F214 [(.one (.ptr 0 0 0))] [.box [.imm true 1 x0.fcode, .lit (.int .i64 x0.fat), .lit (.int .u64 x0.fseed)]] = some ((T214 x0).map (n214 x0)) := by kernel_rfl
noncomputable def q214 : List SV → List Blk → Option ((SV × List Blk) × Bool)
  | [(.one (.ptr 0 0 0))], [.box [.imm true 1 c0, .lit (.int .i64 c1), .lit (.int .u64 c2)]] => some (n214 (Gl1Cur.mk c0 c1 c2) (g214 (Gl1Cur.mk c0 c1 c2)), k214 (Gl1Cur.mk c0 c1 c2))
  | _, _ => none
theorem hL214 : Loops (fun live x => TellsP (lpAt lq214_0 (tagC x)) (evc R 1 9223372036854775808 (.loop live x))) F214.body := (loops_of (l := [([0, 2, 3], F214b0)]) (by kernel_rfl) ⟨fun σ σr t h ho hl => lt214_0 σ σr t h ho hl, trivial⟩)
theorem t214 (args : List SV) (hp : List Blk) (r : SV × List Blk) (h : q214 args hp = some (r, true)) : frzR R 214 args hp = some r := by
  unfold q214 at h
  split at h
  · rename_i c0 c1 c2
    obtain ⟨hr, hk⟩ := Prod.mk.inj (Option.some.inj h)
    exact (frz_lo (by decide)).trans (R_fn at214 9223372036854775808 (fnP_c Q209_ok hL214 (e214 (Gl1Cur.mk c0 c1 c2)) hr hk))
  · simp at h
noncomputable def Q214 : Qt := qcons 214 q214 Q209
theorem Q214_ok : QOk (frzR R) Q214 := qcons_ok t214 Q209_ok
/-! (*spec.l1Cur).anyIns -/
noncomputable def y232_0 (x0 : Gl1Cur) : Gl1Cur × Int := (g141 22 (g167 20 (g214 x0).1).1)
noncomputable def y232_1 (x0 : Gl1Cur) : Gl1Cur × Int := (g141 5 (g141 4 (y232_0 x0).1).1)
noncomputable def y232_2 (x0 : Gl1Cur) : Gl1Cur × Int := (g141 9 (g197 (y232_1 x0).1).1)
noncomputable def T232 (x0 : Gl1Cur) : Pt (Gl1Cur × GIns) := (.ok true (.ok ((k214 x0) && true) (.ok ((k167 20 (g214 x0).1) && true) (.br (g167 20 (g214 x0).1).2 (.ok ((k141 22 (g167 20 (g214 x0).1).1) && ((k141 4 (y232_0 x0).1) && ((k141 5 (g141 4 (y232_0 x0).1).1) && ((k197 (y232_1 x0).1) && ((k141 9 (g197 (y232_1 x0).1).1) && true))))) (.ok true (.ok true (.leaf ((y232_2 x0).1, (GIns.mk (y232_0 x0).2 (g141 4 (y232_0 x0).1).2 (y232_1 x0).2 (g197 (y232_1 x0).1).2 (y232_2 x0).2)))))) (.ok true (.ok true (.leaf ((g167 20 (g214 x0).1).1, (g214 x0).2))))))))
noncomputable def g232 (x0 : Gl1Cur) : Gl1Cur × GIns := hid (T232 x0).val
noncomputable def k232 (x0 : Gl1Cur) : Bool := hid (T232 x0).okv
noncomputable def n232 (x0 : Gl1Cur) (r : Gl1Cur × GIns) : SV × List Blk := ((.agg [.lit (.int .i64 r.2.Op), .lit (.int .i64 r.2.Size), .lit (.int .i64 r.2.Reg), .lit (.int .i64 r.2.Ea.Mode), .lit (.int .i64 r.2.Ea.Reg), .lit (.int .i64 r.2.Ea.Ext), .lit (.int .i64 r.2.Sub)]), [.box [.imm true 1 r.1.fcode, .lit (.int .i64 r.1.fat), .lit (.int .u64 r.1.fseed)]])
theorem e232 (x0 : Gl1Cur) : fnP Q214 [(19, [.int .i64, .int .i64, .int .i64, .int .i64, .int .i64, .int .i64, .int .i64])] [] true [] 9223372036854775808 F232 [(.one (.ptr 0 0 0))] [.box [.imm true 1 x0.fcode, .lit (.int .i64 x0.fat), .lit (.int .u64 x0.fseed)]] = some ((T232 x0).map (n232 x0)) := by kernel_rfl
noncomputable def q232 : List SV → List Blk → Option ((SV × List Blk) × Bool)
  | [(.one (.ptr 0 0 0))], [.box [.imm true 1 c0, .lit (.int .i64 c1), .lit (.int .u64 c2)]] => some (n232 (Gl1Cur.mk c0 c1 c2) (g232 (Gl1Cur.mk c0 c1 c2)), k232 (Gl1Cur.mk c0 c1 c2))
  | _, _ => none
theorem t232 (args : List SV) (hp : List Blk) (r : SV × List Blk) (h : q232 args hp = some (r, true)) : frzR R 232 args hp = some r := by
  unfold q232 at h
  split at h
  · rename_i c0 c1 c2
    obtain ⟨hr, hk⟩ := Prod.mk.inj (Option.some.inj h)
    exact (frz_lo (by decide)).trans (R_fn at232 9223372036854775808 (fnP_c Q214_ok (loops_of (l := []) rfl trivial) (e232 (Gl1Cur.mk c0 c1 c2)) hr hk))
  · simp at h
noncomputable def Q232 : Qt := qcons 232 q232 Q214
theorem Q232_ok : QOk (frzR R) Q232 := qcons_ok t232 Q214_ok
/-! spec.DrawGoodIns -/
noncomputable def T207 (x0 : List Row) : Pt (GIns) := (.ok true (.ok true (.ok ((k232 (Gl1Cur.mk x0 0 0)) && true) (.ok true (.ok true (.leaf (g232 (Gl1Cur.mk x0 0 0)).2))))))
noncomputable def g207 (x0 : List Row) : GIns := hid (T207 x0).val
noncomputable def k207 (x0 : List Row) : Bool := hid (T207 x0).okv
noncomputable def n207 (x0 : List Row) (r : GIns) : SV × List Blk := ((.agg [.lit (.int .i64 r.Op), .lit (.int .i64 r.Size), .lit (.int .i64 r.Reg), .lit (.int .i64 r.Ea.Mode), .lit (.int .i64 r.Ea.Reg), .lit (.int .i64 r.Ea.Ext), .lit (.int .i64 r.Sub)]), [])
theorem e207 (x0 : List Row) : fnZ Q232 [] [] true [] 9223372036854775808 F207 [(.one (.imm true 1 x0))] = some ((T207 x0).map (n207 x0)) := by kernel_rfl
noncomputable def q207 : List SV → List Blk → Option ((SV × List Blk) × Bool)
  | [(.one (.imm true 1 c0))], [] => some (n207 c0 (g207 c0), k207 c0)
  | _, _ => none
theorem t207 (args : List SV) (hp : List Blk) (r : SV × List Blk) (h : q207 args hp = some (r, true)) : frzR R 100207 args hp = some r := by
  unfold q207 at h
  split at h
  · rename_i c0
    obtain ⟨hr, hk⟩ := Prod.mk.inj (Option.some.inj h)
    exact fnZ_c (f := 207) Q232_ok (loops_of (l := []) rfl trivial) (e207 c0) hr hk (fun r h => R_fn at207 9223372036854775808 h)
  · simp at h
noncomputable def Q207 : Qt := qcons 100207 q207 Q232
theorem Q207_ok : QOk (frzR R) Q207 := qcons_ok t207 Q232_ok
/-! spec.DrawEncodeIns -/
noncomputable def T122 (x0 : List Row) : Pt (GIns) := (.ok true (.ok ((k207 x0) && true) (.ok true (.ok true (.leaf (g207 x0))))))
noncomputable def g122 (x0 : List Row) : GIns := hid (T122 x0).val
noncomputable def k122 (x0 : List Row) : Bool := hid (T122 x0).okv
noncomputable def n122 (x0 : List Row) (r : GIns) : SV × List Blk := ((.agg [.lit (.int .i64 r.Op), .lit (.int .i64 r.Size), .lit (.int .i64 r.Reg), .lit (.int .i64 r.Ea.Mode), .lit (.int .i64 r.Ea.Reg), .lit (.int .i64 r.Ea.Ext), .lit (.int .i64 r.Sub)]), [])
theorem e122 (x0 : List Row) : fnZ Q207 [] [] true [] 9223372036854775808 F122 [(.one (.imm true 1 x0))] = some ((T122 x0).map (n122 x0)) := by kernel_rfl
noncomputable def q122 : List SV → List Blk → Option ((SV × List Blk) × Bool)
  | [(.one (.imm true 1 c0))], [] => some (n122 c0 (g122 c0), k122 c0)
  | _, _ => none
theorem t122 (args : List SV) (hp : List Blk) (r : SV × List Blk) (h : q122 args hp = some (r, true)) : frzR R 100122 args hp = some r := by
  unfold q122 at h
  split at h
  · rename_i c0
    obtain ⟨hr, hk⟩ := Prod.mk.inj (Option.some.inj h)
    exact fnZ_c (f := 122) Q207_ok (loops_of (l := []) rfl trivial) (e122 c0) hr hk (fun r h => R_fn at122 9223372036854775808 h)
  · simp at h
noncomputable def Q122 : Qt := qcons 100122 q122 Q207
theorem Q122_ok : QOk (frzR R) Q122 := qcons_ok t122 Q207_ok
/-! impl.isSize -/
noncomputable def T198 (x0 : Int) : Pt (Bool) := (.ok true (.ok true (.ok true (.ok true (.leaf (bif (eqI x0 1) then true else (eqI x0 2)))))))
noncomputable def g198 (x0 : Int) : Bool := hid (T198 x0).val
noncomputable def k198 (x0 : Int) : Bool := hid (T198 x0).okv
noncomputable def n198 (x0 : Int) (r : Bool) : SV × List Blk := ((.one (.lit (.bool r))), [])
theorem e198 (x0 : Int) : fnZ Q122 [] [] true [] 9223372036854775808 F198 [(.one (.lit (.int .i64 x0)))] = some ((T198 x0).map (n198 x0)) := by kernel_rfl
noncomputable def q198 : List SV → List Blk → Option ((SV × List Blk) × Bool)
  | [(.one (.lit (.int .i64 c0)))], [] => some (n198 c0 (g198 c0), k198 c0)
  | _, _ => none
theorem t198 (args : List SV) (hp : List Blk) (r : SV × List Blk) (h : q198 args hp = some (r, true)) : frzR R 100198 args hp = some r := by
  unfold q198 at h
  split at h
  · rename_i c0
    obtain ⟨hr, hk⟩ := Prod.mk.inj (Option.some.inj h)
    exact fnZ_c (f := 198) Q122_ok (loops_of (l := []) rfl trivial) (e198 c0) hr hk (fun r h => R_fn at198 9223372036854775808 h)
  · simp at h
noncomputable def Q198 : Qt := qcons 100198 q198 Q122
theorem Q198_ok : QOk (frzR R) Q198 := qcons_ok t198 Q122_ok
/-! impl.within -/
noncomputable def T142 (x0 : Int) (x1 : Int) (x2 : Int) : Pt (Bool) := (.ok true (.ok true (.ok true (.ok true (.leaf (bif (geI x0 x1) then (leI x0 x2) else false))))))
noncomputable def g142 (x0 : Int) (x1 : Int) (x2 : Int) : Bool := hid (T142 x0 x1 x2).val
noncomputable def k142 (x0 : Int) (x1 : Int) (x2 : Int) : Bool := hid (T142 x0 x1 x2).okv
noncomputable def n142 (x0 : Int) (x1 : Int) (x2 : Int) (r : Bool) : SV × List Blk := ((.one (.lit (.bool r))), [])
theorem e142 (x0 : Int) (x1 : Int) (x2 : Int) : fnZ Q198 [] [] true [] 9223372036854775808 F142 [(.one (.lit (.int .i64 x0))), (.one (.lit (.int .i64 x1))), (.one (.lit (.int .i64 x2)))] = some ((T142 x0 x1 x2).map (n142 x0 x1 x2)) := by kernel_rfl
noncomputable def q142 : List SV → List Blk → Option ((SV × List Blk) × Bool)
  | [(.one (.lit (.int .i64 c0))), (.one (.lit (.int .i64 c1))), (.one (.lit (.int .i64 c2)))], [] => some (n142 c0 c1 c2 (g142 c0 c1 c2), k142 c0 c1 c2)
  | _, _ => none
theorem t142 (args : List SV) (hp : List Blk) (r : SV × List Blk) (h : q142 args hp = some (r, true)) : frzR R 100142 args hp = some r := by
  unfold q142 at h
  split at h
  · rename_i c0 c1 c2
    obtain ⟨hr, hk⟩ := Prod.mk.inj (Option.some.inj h)
    exact fnZ_c (f := 142) Q198_ok (loops_of (l := []) rfl trivial) (e142 c0 c1 c2) hr hk (fun r h => R_fn at142 9223372036854775808 h)
  · simp at h
noncomputable def Q142 : Qt := qcons 100142 q142 Q198
theorem Q142_ok : QOk (frzR R) Q142 := qcons_ok t142 Q198_ok
/-! impl.isWord -/
noncomputable def T160 (x0 : Int) : Pt (Bool) := (.ok true (.ok ((k142 x0 0 65535) && true) (.ok true (.ok true (.leaf (g142 x0 0 65535))))))
noncomputable def g160 (x0 : Int) : Bool := hid (T160 x0).val
noncomputable def k160 (x0 : Int) : Bool := hid (T160 x0).okv
noncomputable def n160 (x0 : Int) (r : Bool) : SV × List Blk := ((.one (.lit (.bool r))), [])
theorem e160 (x0 : Int) : fnZ Q142 [] [] true [] 9223372036854775808 F160 [(.one (.lit (.int .i64 x0)))] = some ((T160 x0).map (n160 x0)) := by kernel_rfl
noncomputable def q160 : List SV → List Blk → Option ((SV × List Blk) × Bool)
  | [(.one (.lit (.int .i64 c0)))], [] => some (n160 c0 (g160 c0), k160 c0)
  | _, _ => none
theorem t160 (args : List SV) (hp : List Blk) (r : SV × List Blk) (h : q160 args hp = some (r, true)) : frzR R 100160 args hp = some r := by
  unfold q160 at h
  split at h
  · rename_i c0
    obtain ⟨hr, hk⟩ := Prod.mk.inj (Option.some.inj h)
    exact fnZ_c (f := 160) Q142_ok (loops_of (l := []) rfl trivial) (e160 c0) hr hk (fun r h => R_fn at160 9223372036854775808 h)
  · simp at h
noncomputable def Q160 : Qt := qcons 100160 q160 Q142
theorem Q160_ok : QOk (frzR R) Q160 := qcons_ok t160 Q142_ok
/-! impl.needsExt -/
noncomputable def T203 (x0 : Int) : Pt (Bool) := (.ok true (.ok true (.ok true (.ok true (.leaf (bif (bif (eqI x0 5) then true else (eqI x0 6)) then true else (eqI x0 7)))))))
noncomputable def g203 (x0 : Int) : Bool := hid (T203 x0).val
noncomputable def k203 (x0 : Int) : Bool := hid (T203 x0).okv
noncomputable def n203 (x0 : Int) (r : Bool) : SV × List Blk := ((.one (.lit (.bool r))), [])
theorem e203 (x0 : Int) : fnZ Q160 [] [] true [] 9223372036854775808 F203 [(.one (.lit (.int .i64 x0)))] = some ((T203 x0).map (n203 x0)) := by kernel_rfl
noncomputable def q203 : List SV → List Blk → Option ((SV × List Blk) × Bool)
  | [(.one (.lit (.int .i64 c0)))], [] => some (n203 c0 (g203 c0), k203 c0)
  | _, _ => none
theorem t203 (args : List SV) (hp : List Blk) (r : SV × List Blk) (h : q203 args hp = some (r, true)) : frzR R 100203 args hp = some r := by
  unfold q203 at h
  split at h
  · rename_i c0
    obtain ⟨hr, hk⟩ := Prod.mk.inj (Option.some.inj h)
    exact fnZ_c (f := 203) Q160_ok (loops_of (l := []) rfl trivial) (e203 c0) hr hk (fun r h => R_fn at203 9223372036854775808 h)
  · simp at h
noncomputable def Q203 : Qt := qcons 100203 q203 Q160
theorem Q203_ok : QOk (frzR R) Q203 := qcons_ok t203 Q160_ok
/-! impl.GoodOperand -/
noncomputable def y114_0 (x0 : GOperand) : Bool := (bif (!(g142 x0.Mode 0 7)) then true else (!(g160 x0.Ext)))
noncomputable def T114 (x0 : GOperand) : Pt (Bool) := (.ok true (.ok ((k142 x0.Mode 0 7) && ((((k160 x0.Ext) && true) || (!(g142 x0.Mode 0 7))) && ((((k203 x0.Mode) && true) || (y114_0 x0)) && true))) (.br (bif (y114_0 x0) then true else (bif (!(g203 x0.Mode)) then (neI x0.Ext 0) else false)) (.ok true (.ok true (.ok true (.leaf false)))) (.ok ((k142 x0.Reg 0 3) && true) (.ok true (.ok true (.leaf (bif (g142 x0.Reg 0 3) then (bif (eqI x0.Reg 0) then true else (ltI x0.Mode 6)) else false))))))))
noncomputable def g114 (x0 : GOperand) : Bool := hid (T114 x0).val
noncomputable def k114 (x0 : GOperand) : Bool := hid (T114 x0).okv
noncomputable def n114 (x0 : GOperand) (r : Bool) : SV × List Blk := ((.one (.lit (.bool r))), [])
theorem e114 (x0 : GOperand) : fnZ Q203 [(4, [.int .i64]), (9, [.int .i64]), (15, [.int .i64]), (20, [.int .i64]), (25, [.int .i64]), (29, [.int .i64]), (33, [.int .i64])] [] true [] 9223372036854775808 F114 [(.agg [.lit (.int .i64 x0.Mode), .lit (.int .i64 x0.Reg), .lit (.int .i64 x0.Ext)])] = some ((T114 x0).map (n114 x0)) := by kernel_rfl
noncomputable def q114 : List SV → List Blk → Option ((SV × List Blk) × Bool)
  | [(.agg [.lit (.int .i64 c0), .lit (.int .i64 c1), .lit (.int .i64 c2)])], [] => some (n114 (GOperand.mk c0 c1 c2) (g114 (GOperand.mk c0 c1 c2)), k114 (GOperand.mk c0 c1 c2))
  | _, _ => none
theorem t114 (args : List SV) (hp : List Blk) (r : SV × List Blk) (h : q114 args hp = some (r, true)) : frzR R 100114 args hp = some r := by
  unfold q114 at h
  split at h
  · rename_i c0 c1 c2
    obtain ⟨hr, hk⟩ := Prod.mk.inj (Option.some.inj h)
    exact fnZ_c (f := 114) Q203_ok (loops_of (l := []) rfl trivial) (e114 (GOperand.mk c0 c1 c2)) hr hk (fun r h => R_fn at114 9223372036854775808 h)
  · simp at h
noncomputable def Q114 : Qt := qcons 100114 q114 Q203
theorem Q114_ok : QOk (frzR R) Q114 := qcons_ok t114 Q203_ok
/-! impl.isMemory -/
noncomputable def T199 (x0 : Int) : Pt (Bool) := (.ok true (.ok ((k142 x0 2 6) && true) (.ok true (.ok true (.leaf (g142 x0 2 6))))))
noncomputable def g199 (x0 : Int) : Bool := hid (T199 x0).val
noncomputable def k199 (x0 : Int) : Bool := hid (T199 x0).okv
noncomputable def n199 (x0 : Int) (r : Bool) : SV × List Blk := ((.one (.lit (.bool r))), [])
theorem e199 (x0 : Int) : fnZ Q114 [] [] true [] 9223372036854775808 F199 [(.one (.lit (.int .i64 x0)))] = some ((T199 x0).map (n199 x0)) := by kernel_rfl
noncomputable def q199 : List SV → List Blk → Option ((SV × List Blk) × Bool)
  | [(.one (.lit (.int .i64 c0)))], [] => some (n199 c0 (g199 c0), k199 c0)
  | _, _ => none
theorem t199 (args : List SV) (hp : List Blk) (r : SV × List Blk) (h : q199 args hp = some (r, true)) : frzR R 100199 args hp = some r := by
  unfold q199 at h
  split at h
  · rename_i c0
    obtain ⟨hr, hk⟩ := Prod.mk.inj (Option.some.inj h)
    exact fnZ_c (f := 199) Q114_ok (loops_of (l := []) rfl trivial) (e199 c0) hr hk (fun r h => R_fn at199 9223372036854775808 h)
  · simp at h
noncomputable def Q199 : Qt := qcons 100199 q199 Q114
theorem Q199_ok : QOk (frzR R) Q199 := qcons_ok t199 Q114_ok
/-! impl.isSettable -/
noncomputable def T237 (x0 : Int) : Pt (Bool) := (.ok true (.ok ((((k199 x0) && true) || (eqI x0 0)) && true) (.ok true (.ok true (.leaf (bif (eqI x0 0) then true else (g199 x0)))))))
noncomputable def g237 (x0 : Int) : Bool := hid (T237 x0).val
noncomputable def k237 (x0 : Int) : Bool := hid (T237 x0).okv
noncomputable def n237 (x0 : Int) (r : Bool) : SV × List Blk := ((.one (.lit (.bool r))), [])
theorem e237 (x0 : Int) : fnZ Q199 [] [] true [] 9223372036854775808 F237 [(.one (.lit (.int .i64 x0)))] = some ((T237 x0).map (n237 x0)) := by kernel_rfl
noncomputable def q237 : List SV → List Blk → Option ((SV × List Blk) × Bool)
  | [(.one (.lit (.int .i64 c0)))], [] => some (n237 c0 (g237 c0), k237 c0)
  | _, _ => none
theorem t237 (args : List SV) (hp : List Blk) (r : SV × List Blk) (h : q237 args hp = some (r, true)) : frzR R 100237 args hp = some r := by
  unfold q237 at h
  split at h
  · rename_i c0
    obtain ⟨hr, hk⟩ := Prod.mk.inj (Option.some.inj h)
    exact fnZ_c (f := 237) Q199_ok (loops_of (l := []) rfl trivial) (e237 c0) hr hk (fun r h => R_fn at237 9223372036854775808 h)
  · simp at h
noncomputable def Q237 : Qt := qcons 100237 q237 Q199
theorem Q237_ok : QOk (frzR R) Q237 := qcons_ok t237 Q199_ok
/-! impl.isPlain -/
noncomputable def T238 (x0 : Int) : Pt (Bool) := (.ok true (.ok true (.ok true (.ok true (.leaf (bif (bif (eqI x0 2) then true else (eqI x0 5)) then true else (eqI x0 6)))))))
noncomputable def g238 (x0 : Int) : Bool := hid (T238 x0).val
noncomputable def k238 (x0 : Int) : Bool := hid (T238 x0).okv
noncomputable def n238 (x0 : Int) (r : Bool) : SV × List Blk := ((.one (.lit (.bool r))), [])
theorem e238 (x0 : Int) : fnZ Q237 [] [] true [] 9223372036854775808 F238 [(.one (.lit (.int .i64 x0)))] = some ((T238 x0).map (n238 x0)) := by kernel_rfl
noncomputable def q238 : List SV → List Blk → Option ((SV × List Blk) × Bool)
  | [(.one (.lit (.int .i64 c0)))], [] => some (n238 c0 (g238 c0), k238 c0)
  | _, _ => none
theorem t238 (args : List SV) (hp : List Blk) (r : SV × List Blk) (h : q238 args hp = some (r, true)) : frzR R 100238 args hp = some r := by
  unfold q238 at h
  split at h
  · rename_i c0
    obtain ⟨hr, hk⟩ := Prod.mk.inj (Option.some.inj h)
    exact fnZ_c (f := 238) Q237_ok (loops_of (l := []) rfl trivial) (e238 c0) hr hk (fun r h => R_fn at238 9223372036854775808 h)
  · simp at h
noncomputable def Q238 : Qt := qcons 100238 q238 Q237
theorem Q238_ok : QOk (frzR R) Q238 := qcons_ok t238 Q237_ok
/-! impl.isNow -/
noncomputable def T240 (x0 : GOperand) : Pt (Bool) := (.ok true (.ok true (.ok true (.ok true (.leaf (bif (eqI x0.Mode 7) then (leI x0.Ext 1023) else false))))))
noncomputable def g240 (x0 : GOperand) : Bool := hid (T240 x0).val
noncomputable def k240 (x0 : GOperand) : Bool := hid (T240 x0).okv
noncomputable def n240 (x0 : GOperand) (r : Bool) : SV × List Blk := ((.one (.lit (.bool r))), [])
theorem e240 (x0 : GOperand) : fnZ Q238 [(4, [.int .i64]), (8, [.int .i64])] [] true [] 9223372036854775808 F240 [(.agg [.lit (.int .i64 x0.Mode), .lit (.int .i64 x0.Reg), .lit (.int .i64 x0.Ext)])] = some ((T240 x0).map (n240 x0)) := by kernel_rfl
noncomputable def q240 : List SV → List Blk → Option ((SV × List Blk) × Bool)
  | [(.agg [.lit (.int .i64 c0), .lit (.int .i64 c1), .lit (.int .i64 c2)])], [] => some (n240 (GOperand.mk c0 c1 c2) (g240 (GOperand.mk c0 c1 c2)), k240 (GOperand.mk c0 c1 c2))
  | _, _ => none
theorem t240 (args : List SV) (hp : List Blk) (r : SV × List Blk) (h : q240 args hp = some (r, true)) : frzR R 100240 args hp = some r := by
  unfold q240 at h
  split at h
  · rename_i c0 c1 c2
    obtain ⟨hr, hk⟩ := Prod.mk.inj (Option.some.inj h)
    exact fnZ_c (f := 240) Q238_ok (loops_of (l := []) rfl trivial) (e240 (GOperand.mk c0 c1 c2)) hr hk (fun r h => R_fn at240 9223372036854775808 h)
  · simp at h
noncomputable def Q240 : Qt := qcons 100240 q240 Q238
theorem Q240_ok : QOk (frzR R) Q240 := qcons_ok t240 Q238_ok
/-! impl.isFlow -/
noncomputable def T239 (x0 : GIns) : Pt (Bool) := (.ok true (.ok true (.br (bif (neI x0.Size 2) then true else (gtI x0.Sub 6)) (.ok true (.ok true (.ok true (.leaf false)))) (.ok true (.br (eqI x0.Sub 3) (.ok ((((k240 x0.Ea) && true) || (!(eqI x0.Reg 0))) && true) (.ok true (.ok true (.leaf (bif (eqI x0.Reg 0) then (g240 x0.Ea) else false))))) (.ok true (.br (bif (ltI x0.Sub 3) then (neI x0.Reg 0) else false) (.ok true (.ok true (.ok true (.leaf false)))) (.ok true (.ok true (.ok true (.leaf ((eqI x0.Ea.Mode 0) && ((eqI x0.Ea.Reg 0) && ((eqI x0.Ea.Ext 0) && true))))))))))))))
noncomputable def g239 (x0 : GIns) : Bool := hid (T239 x0).val
noncomputable def k239 (x0 : GIns) : Bool := hid (T239 x0).okv
noncomputable def n239 (x0 : GIns) (r : Bool) : SV × List Blk := ((.one (.lit (.bool r))), [])
theorem e239 (x0 : GIns) : fnZ Q240 [(5, [.int .i64]), (9, [.int .i64]), (14, [.int .i64]), (17, [.int .i64]), (21, [.int .i64, .int .i64, .int .i64]), (26, [.int .i64]), (30, [.int .i64]), (34, [.int .i64, .int .i64, .int .i64])] [] true [] 9223372036854775808 F239 [(.agg [.lit (.int .i64 x0.Op), .lit (.int .i64 x0.Size), .lit (.int .i64 x0.Reg), .lit (.int .i64 x0.Ea.Mode), .lit (.int .i64 x0.Ea.Reg), .lit (.int .i64 x0.Ea.Ext), .lit (.int .i64 x0.Sub)])] = some ((T239 x0).map (n239 x0)) := by kernel_rfl
noncomputable def q239 : List SV → List Blk → Option ((SV × List Blk) × Bool)
  | [(.agg [.lit (.int .i64 c0), .lit (.int .i64 c1), .lit (.int .i64 c2), .lit (.int .i64 c3), .lit (.int .i64 c4), .lit (.int .i64 c5), .lit (.int .i64 c6)])], [] => some (n239 (GIns.mk c0 c1 c2 (GOperand.mk c3 c4 c5) c6) (g239 (GIns.mk c0 c1 c2 (GOperand.mk c3 c4 c5) c6)), k239 (GIns.mk c0 c1 c2 (GOperand.mk c3 c4 c5) c6))
  | _, _ => none
theorem t239 (args : List SV) (hp : List Blk) (r : SV × List Blk) (h : q239 args hp = some (r, true)) : frzR R 100239 args hp = some r := by
  unfold q239 at h
  split at h
  · rename_i c0 c1 c2 c3 c4 c5 c6
    obtain ⟨hr, hk⟩ := Prod.mk.inj (Option.some.inj h)
    exact fnZ_c (f := 239) Q240_ok (loops_of (l := []) rfl trivial) (e239 (GIns.mk c0 c1 c2 (GOperand.mk c3 c4 c5) c6)) hr hk (fun r h => R_fn at239 9223372036854775808 h)
  · simp at h
noncomputable def Q239 : Qt := qcons 100239 q239 Q240
theorem Q239_ok : QOk (frzR R) Q239 := qcons_ok t239 Q240_ok
/-! impl.isKind -/
noncomputable def y211_0 (x0 : GIns) : Bool := (bif (eqI x0.Size 2) then (eqI x0.Sub 0) else false)
noncomputable def y211_1 (x0 : GIns) : Bool := (bif (eqI x0.Reg 0) then (leI x0.Sub 3) else false)
noncomputable def y211_2 (x0 : GIns) : Bool := (bif (bif (eqI x0.Size 2) then (eqI x0.Reg 0) else false) then (leI x0.Sub 1) else false)
noncomputable def y211_3 (x0 : GIns) : Bool := (bif (eqI x0.Sub 0) then (eqI x0.Reg 0) else false)
noncomputable def T211 (x0 : GIns) : Pt (Bool) := (.ok true (.ok true (.ok true (.ok true (.ok true (.ok true (.br (bif (eqI x0.Op 1) then (eqI x0.Op 1) else (bif (eqI x0.Op 3) then (eqI x0.Op 3) else (bif (eqI x0.Op 4) then (eqI x0.Op 4) else (bif (eqI x0.Op 5) then (eqI x0.Op 5) else (bif (eqI x0.Op 6) then (eqI x0.Op 6) else (bif (eqI x0.Op 7) then (eqI x0.Op 7) else (eqI x0.Op 8))))))) (.ok true (.ok true (.ok true (.leaf (bif (eqI x0.Sub 0) then (bif (neI x0.Ea.Mode 1) then true else (eqI x0.Size 2)) else false))))) (.ok true (.br (eqI x0.Op 2) (.ok ((((k237 x0.Ea.Mode) && true) || (!(eqI x0.Sub 0))) && true) (.ok true (.ok true (.leaf (bif (eqI x0.Sub 0) then (g237 x0.Ea.Mode) else false))))) (.ok true (.br (eqI x0.Op 9) (.ok true (.ok true (.ok true (.leaf (y211_0 x0))))) (.ok true (.br (eqI x0.Op 10) (.ok ((((k238 x0.Ea.Mode) && true) || (!(y211_0 x0))) && true) (.ok true (.ok true (.leaf (bif (y211_0 x0) then (g238 x0.Ea.Mode) else false))))) (.ok true (.br (eqI x0.Op 11) (.ok ((((k237 x0.Ea.Mode) && true) || (!(y211_1 x0))) && true) (.ok true (.ok true (.leaf (bif (y211_1 x0) then (g237 x0.Ea.Mode) else false))))) (.ok true (.br (eqI x0.Op 12) (.ok true (.ok true (.ok true (.leaf (eqI x0.Ea.Mode 0))))) (.ok true (.br (eqI x0.Op 13) (.ok true (.ok true (.ok true (.leaf (bif (bif (eqI x0.Size 2) then (leI x0.Reg 1) else false) then (eqI x0.Ea.Mode 7) else false))))) (.ok true (.br (eqI x0.Op 14) (.ok ((((k238 x0.Ea.Mode) && true) || (!(y211_2 x0))) && true) (.ok true (.ok true (.leaf (bif (y211_2 x0) then (g238 x0.Ea.Mode) else false))))) (.ok true (.br (eqI x0.Op 15) (.ok ((k239 x0) && true) (.ok true (.ok true (.leaf (g239 x0))))) (.ok true (.ok true (.br (bif (eqI x0.Op 16) then (eqI x0.Op 16) else (eqI x0.Op 17)) (.ok true (.ok true (.ok true (.leaf (bif (y211_0 x0) then (neI x0.Ea.Mode 1) else false))))) (.ok true (.br (eqI x0.Op 18) (.ok true (.ok true (.ok true (.leaf (bif (bif (!(eqI x0.Size 2)) then (leI x0.Sub 1) else false) then (eqI x0.Ea.Mode 0) else false))))) (.ok true (.br (eqI x0.Op 19) (.ok ((((((k240 x0.Ea) && true) || (!(y211_3 x0))) && true) || (!(eqI x0.Size 2))) && true) (.ok true (.ok true (.leaf (bif (eqI x0.Size 2) then (bif (bif (y211_3 x0) then (g240 x0.Ea) else false) then true else (bif (eqI x0.Sub 1) then ((eqI x0.Ea.Mode 0) && ((eqI x0.Ea.Reg 0) && ((eqI x0.Ea.Ext 0) && true))) else false)) else false))))) (.ok true (.ok true (.ok true (.leaf false))))))))))))))))))))))))))))))))))
noncomputable def g211 (x0 : GIns) : Bool := hid (T211 x0).val
noncomputable def k211 (x0 : GIns) : Bool := hid (T211 x0).okv
noncomputable def n211 (x0 : GIns) (r : Bool) : SV × List Blk := ((.one (.lit (.bool r))), [])
theorem e211 (x0 : GIns) : fnZ Q239 [(7, [.int .i64]), (9, [.int .i64]), (12, [.int .i64]), (22, [.int .i64]), (34, [.int .i64]), (45, [.int .i64]), (53, [.int .i64]), (63, [.int .i64]), (67, [.int .i64]), (83, [.int .i64]), (95, [.int .i64]), (100, [.int .i64]), (109, [.int .i64, .int .i64, .int .i64, .int .i64, .int .i64, .int .i64, .int .i64]), (117, [.int .i64]), (130, [.int .i64]), (142, [.int .i64]), (146, [.int .i64]), (151, [.int .i64, .int .i64, .int .i64]), (156, [.int .i64]), (160, [.int .i64, .int .i64, .int .i64])] [] true [] 9223372036854775808 F211 [(.agg [.lit (.int .i64 x0.Op), .lit (.int .i64 x0.Size), .lit (.int .i64 x0.Reg), .lit (.int .i64 x0.Ea.Mode), .lit (.int .i64 x0.Ea.Reg), .lit (.int .i64 x0.Ea.Ext), .lit (.int .i64 x0.Sub)])] = some ((T211 x0).map (n211 x0)) := by kernel_rfl
noncomputable def q211 : List SV → List Blk → Option ((SV × List Blk) × Bool)
  | [(.agg [.lit (.int .i64 c0), .lit (.int .i64 c1), .lit (.int .i64 c2), .lit (.int .i64 c3), .lit (.int .i64 c4), .lit (.int .i64 c5), .lit (.int .i64 c6)])], [] => some (n211 (GIns.mk c0 c1 c2 (GOperand.mk c3 c4 c5) c6) (g211 (GIns.mk c0 c1 c2 (GOperand.mk c3 c4 c5) c6)), k211 (GIns.mk c0 c1 c2 (GOperand.mk c3 c4 c5) c6))
  | _, _ => none
theorem t211 (args : List SV) (hp : List Blk) (r : SV × List Blk) (h : q211 args hp = some (r, true)) : frzR R 100211 args hp = some r := by
  unfold q211 at h
  split at h
  · rename_i c0 c1 c2 c3 c4 c5 c6
    obtain ⟨hr, hk⟩ := Prod.mk.inj (Option.some.inj h)
    exact fnZ_c (f := 211) Q239_ok (loops_of (l := []) rfl trivial) (e211 (GIns.mk c0 c1 c2 (GOperand.mk c3 c4 c5) c6)) hr hk (fun r h => R_fn at211 9223372036854775808 h)
  · simp at h
noncomputable def Q211 : Qt := qcons 100211 q211 Q239
theorem Q211_ok : QOk (frzR R) Q211 := qcons_ok t211 Q239_ok
/-! impl.GoodIns -/
noncomputable def y125_0 (x0 : GIns) : Bool := (bif (g198 x0.Size) then (g142 x0.Reg 0 3) else false)
noncomputable def y125_1 (x0 : GIns) : Bool := (bif (y125_0 x0) then (g142 x0.Sub 0 7) else false)
noncomputable def y125_2 (x0 : GIns) : Bool := (bif (bif (y125_1 x0) then (g114 x0.Ea) else false) then (!(bif (bif (eqI x0.Ea.Mode 7) then (eqI x0.Size 1) else false) then (gtI x0.Ea.Ext 255) else false)) else false)
noncomputable def T125 (x0 : GIns) : Pt (Bool) := (.ok true (.ok ((k198 x0.Size) && ((((k142 x0.Reg 0 3) && true) || (!(g198 x0.Size))) && ((((k142 x0.Sub 0 7) && true) || (!(y125_0 x0))) && ((((k114 x0.Ea) && true) || (!(y125_1 x0))) && ((((k211 x0) && true) || (!(y125_2 x0))) && true))))) (.ok true (.ok true (.leaf (bif (y125_2 x0) then (g211 x0) else false))))))
noncomputable def g125 (x0 : GIns) : Bool := hid (T125 x0).val
noncomputable def k125 (x0 : GIns) : Bool := hid (T125 x0).okv
noncomputable def n125 (x0 : GIns) (r : Bool) : SV × List Blk := ((.one (.lit (.bool r))), [])
theorem e125 (x0 : GIns) : fnZ Q211 [(4, [.int .i64]), (8, [.int .i64]), (13, [.int .i64]), (18, [.int .i64, .int .i64, .int .i64]), (24, [.int .i64]), (28, [.int .i64]), (34, [.int .i64]), (40, [.int .i64, .int .i64, .int .i64, .int .i64, .int .i64, .int .i64, .int .i64])] [] true [] 9223372036854775808 F125 [(.agg [.lit (.int .i64 x0.Op), .lit (.int .i64 x0.Size), .lit (.int .i64 x0.Reg), .lit (.int .i64 x0.Ea.Mode), .lit (.int .i64 x0.Ea.Reg), .lit (.int .i64 x0.Ea.Ext), .lit (.int .i64 x0.Sub)])] = some ((T125 x0).map (n125 x0)) := by kernel_rfl
noncomputable def q125 : List SV → List Blk → Option ((SV × List Blk) × Bool)
  | [(.agg [.lit (.int .i64 c0), .lit (.int .i64 c1), .lit (.int .i64 c2), .lit (.int .i64 c3), .lit (.int .i64 c4), .lit (.int .i64 c5), .lit (.int .i64 c6)])], [] => some (n125 (GIns.mk c0 c1 c2 (GOperand.mk c3 c4 c5) c6) (g125 (GIns.mk c0 c1 c2 (GOperand.mk c3 c4 c5) c6)), k125 (GIns.mk c0 c1 c2 (GOperand.mk c3 c4 c5) c6))
  | _, _ => none
theorem t125 (args : List SV) (hp : List Blk) (r : SV × List Blk) (h : q125 args hp = some (r, true)) : frzR R 100125 args hp = some r := by
  unfold q125 at h
  split at h
  · rename_i c0 c1 c2 c3 c4 c5 c6
    obtain ⟨hr, hk⟩ := Prod.mk.inj (Option.some.inj h)
    exact fnZ_c (f := 125) Q211_ok (loops_of (l := []) rfl trivial) (e125 (GIns.mk c0 c1 c2 (GOperand.mk c3 c4 c5) c6)) hr hk (fun r h => R_fn at125 9223372036854775808 h)
  · simp at h
noncomputable def Q125 : Qt := qcons 100125 q125 Q211
theorem Q125_ok : QOk (frzR R) Q125 := qcons_ok t125 Q211_ok
/-! impl.encoded -/
noncomputable def T208 (x0 : GIns) : Pt (List Row) := (.ok true (.ok true (.ok ((k203 x0.Ea.Mode) && true) (.br (g203 x0.Ea.Mode) (.ok true (.ok true (.ok true (.leaf [(rowI (addI (addI (addI (addI (addI (mulI x0.Op 2048) (mulI (subI x0.Size 1) 1024)) (mulI x0.Reg 256)) (mulI x0.Ea.Mode 32)) (mulI x0.Ea.Reg 8)) x0.Sub)), (rowI x0.Ea.Ext)])))) (.ok true (.ok true (.leaf [(rowI (addI (addI (addI (addI (addI (mulI x0.Op 2048) (mulI (subI x0.Size 1) 1024)) (mulI x0.Reg 256)) (mulI x0.Ea.Mode 32)) (mulI x0.Ea.Reg 8)) x0.Sub))])))))))
noncomputable def g208 (x0 : GIns) : List Row := hid (T208 x0).val
noncomputable def k208 (x0 : GIns) : Bool := hid (T208 x0).okv
noncomputable def n208 (x0 : GIns) (r : List Row) : SV × List Blk := ((.one (.sl 0 0 (List.length r))), [.lst 1 r])
theorem e208 (x0 : GIns) : fnP Q125 [(5, [.int .i64]), (8, [.int .i64]), (13, [.int .i64]), (18, [.int .i64]), (23, [.int .i64]), (27, [.int .i64]), (32, [.int .i64]), (37, [.int .i64])] [] true [] 9223372036854775808 F208 [(.agg [.lit (.int .i64 x0.Op), .lit (.int .i64 x0.Size), .lit (.int .i64 x0.Reg), .lit (.int .i64 x0.Ea.Mode), .lit (.int .i64 x0.Ea.Reg), .lit (.int .i64 x0.Ea.Ext), .lit (.int .i64 x0.Sub)])] [] = some ((T208 x0).map (n208 x0)) := by kernel_rfl
noncomputable def q208 : List SV → List Blk → Option ((SV × List Blk) × Bool)
  | [(.agg [.lit (.int .i64 c0), .lit (.int .i64 c1), .lit (.int .i64 c2), .lit (.int .i64 c3), .lit (.int .i64 c4), .lit (.int .i64 c5), .lit (.int .i64 c6)])], [] => some (n208 (GIns.mk c0 c1 c2 (GOperand.mk c3 c4 c5) c6) (g208 (GIns.mk c0 c1 c2 (GOperand.mk c3 c4 c5) c6)), k208 (GIns.mk c0 c1 c2 (GOperand.mk c3 c4 c5) c6))
  | _, _ => none
theorem t208 (args : List SV) (hp : List Blk) (r : SV × List Blk) (h : q208 args hp = some (r, true)) : frzR R 208 args hp = some r := by
  unfold q208 at h
  split at h
  · rename_i c0 c1 c2 c3 c4 c5 c6
    obtain ⟨hr, hk⟩ := Prod.mk.inj (Option.some.inj h)
    exact (frz_lo (by decide)).trans (R_fn at208 9223372036854775808 (fnP_c Q125_ok (loops_of (l := []) rfl trivial) (e208 (GIns.mk c0 c1 c2 (GOperand.mk c3 c4 c5) c6)) hr hk))
  · simp at h
noncomputable def Q208 : Qt := qcons 208 q208 Q125
theorem Q208_ok : QOk (frzR R) Q208 := qcons_ok t208 Q125_ok
/-! impl.EncodeIns -/
noncomputable def y123_0 (x0 : GIns) : Bool := ((eqN (List.length (g208 x0)) (List.length (g208 x0))) && true)
noncomputable def T123 (x0 : GIns) : Pt (List Row × Bool) := (.ok true (.ok ((k125 x0) && true) (.br (!(g125 x0)) (.ok true (.ok true (.ok true (.leaf ([], false))))) (.ok ((k208 x0) && true) (.ok ((y123_0 x0) && (y123_0 x0)) (.ok (y123_0 x0) (.leaf ((g208 x0), true))))))))
noncomputable def g123 (x0 : GIns) : List Row × Bool := hid (T123 x0).val
noncomputable def k123 (x0 : GIns) : Bool := hid (T123 x0).okv
noncomputable def n123 (x0 : GIns) (r : List Row × Bool) : SV × List Blk := ((.tup [(.one (.imm true 1 r.1)), (.one (.lit (.bool r.2)))]), [])
theorem e123 (x0 : GIns) : fnZ Q208 [(4, [.int .i64, .int .i64, .int .i64, .int .i64, .int .i64, .int .i64, .int .i64]), (7, [.int .i64, .int .i64, .int .i64, .int .i64, .int .i64, .int .i64, .int .i64])] [] true [] 9223372036854775808 F123 [(.agg [.lit (.int .i64 x0.Op), .lit (.int .i64 x0.Size), .lit (.int .i64 x0.Reg), .lit (.int .i64 x0.Ea.Mode), .lit (.int .i64 x0.Ea.Reg), .lit (.int .i64 x0.Ea.Ext), .lit (.int .i64 x0.Sub)])] = some ((T123 x0).map (n123 x0)) := by kernel_rfl
noncomputable def q123 : List SV → List Blk → Option ((SV × List Blk) × Bool)
  | [(.agg [.lit (.int .i64 c0), .lit (.int .i64 c1), .lit (.int .i64 c2), .lit (.int .i64 c3), .lit (.int .i64 c4), .lit (.int .i64 c5), .lit (.int .i64 c6)])], [] => some (n123 (GIns.mk c0 c1 c2 (GOperand.mk c3 c4 c5) c6) (g123 (GIns.mk c0 c1 c2 (GOperand.mk c3 c4 c5) c6)), k123 (GIns.mk c0 c1 c2 (GOperand.mk c3 c4 c5) c6))
  | _, _ => none
theorem t123 (args : List SV) (hp : List Blk) (r : SV × List Blk) (h : q123 args hp = some (r, true)) : frzR R 100123 args hp = some r := by
  unfold q123 at h
  split at h
  · rename_i c0 c1 c2 c3 c4 c5 c6
    obtain ⟨hr, hk⟩ := Prod.mk.inj (Option.some.inj h)
    exact fnZ_c (f := 123) Q208_ok (loops_of (l := []) rfl trivial) (e123 (GIns.mk c0 c1 c2 (GOperand.mk c3 c4 c5) c6)) hr hk (fun r h => R_fn at123 9223372036854775808 h)
  · simp at h
noncomputable def Q123 : Qt := qcons 100123 q123 Q208
theorem Q123_ok : QOk (frzR R) Q123 := qcons_ok t123 Q208_ok
/-! spec.l7Encode -/
noncomputable def T210 (x0 : GIns) : Pt (List Row) := (.ok true (.ok true (.ok ((k204 x0.Ea.Mode) && true) (.br (g204 x0.Ea.Mode) (.ok true (.ok true (.ok true (.ok true (.leaf [(rowI (orI (orI (orI (orI (orI (shlI x0.Op 11) (shlI (subI x0.Size 1) 10)) (shlI x0.Reg 8)) (shlI x0.Ea.Mode 5)) (shlI x0.Ea.Reg 3)) x0.Sub)), (rowI x0.Ea.Ext)]))))) (.ok true (.ok true (.ok true (.leaf [(rowI (orI (orI (orI (orI (orI (shlI x0.Op 11) (shlI (subI x0.Size 1) 10)) (shlI x0.Reg 8)) (shlI x0.Ea.Mode 5)) (shlI x0.Ea.Reg 3)) x0.Sub))]))))))))
noncomputable def g210 (x0 : GIns) : List Row := hid (T210 x0).val
noncomputable def k210 (x0 : GIns) : Bool := hid (T210 x0).okv
noncomputable def n210 (x0 : GIns) (r : List Row) : SV × List Blk := ((.one (.imm true 1 r)), [])
theorem e210 (x0 : GIns) : fnZ Q123 [(5, [.int .i64]), (8, [.int .i64]), (13, [.int .i64]), (18, [.int .i64]), (23, [.int .i64]), (27, [.int .i64]), (32, [.int .i64]), (37, [.int .i64])] [] true [] 9223372036854775808 F210 [(.agg [.lit (.int .i64 x0.Op), .lit (.int .i64 x0.Size), .lit (.int .i64 x0.Reg), .lit (.int .i64 x0.Ea.Mode), .lit (.int .i64 x0.Ea.Reg), .lit (.int .i64 x0.Ea.Ext), .lit (.int .i64 x0.Sub)])] = some ((T210 x0).map (n210 x0)) := by kernel_rfl
noncomputable def q210 : List SV → List Blk → Option ((SV × List Blk) × Bool)
  | [(.agg [.lit (.int .i64 c0), .lit (.int .i64 c1), .lit (.int .i64 c2), .lit (.int .i64 c3), .lit (.int .i64 c4), .lit (.int .i64 c5), .lit (.int .i64 c6)])], [] => some (n210 (GIns.mk c0 c1 c2 (GOperand.mk c3 c4 c5) c6) (g210 (GIns.mk c0 c1 c2 (GOperand.mk c3 c4 c5) c6)), k210 (GIns.mk c0 c1 c2 (GOperand.mk c3 c4 c5) c6))
  | _, _ => none
theorem t210 (args : List SV) (hp : List Blk) (r : SV × List Blk) (h : q210 args hp = some (r, true)) : frzR R 100210 args hp = some r := by
  unfold q210 at h
  split at h
  · rename_i c0 c1 c2 c3 c4 c5 c6
    obtain ⟨hr, hk⟩ := Prod.mk.inj (Option.some.inj h)
    exact fnZ_c (f := 210) Q123_ok (loops_of (l := []) rfl trivial) (e210 (GIns.mk c0 c1 c2 (GOperand.mk c3 c4 c5) c6)) hr hk (fun r h => R_fn at210 9223372036854775808 h)
  · simp at h
noncomputable def Q210 : Qt := qcons 100210 q210 Q123
theorem Q210_ok : QOk (frzR R) Q210 := qcons_ok t210 Q123_ok
/-! spec.EncodeIns -/
noncomputable def T124 (x0 : GIns) : Pt (List Row × Bool) := (.ok true (.ok ((k209 x0) && true) (.br (!(g209 x0)) (.ok true (.ok true (.ok true (.leaf ([], false))))) (.ok ((k210 x0) && true) (.ok true (.ok true (.leaf ((g210 x0), true))))))))
noncomputable def g124 (x0 : GIns) : List Row × Bool := hid (T124 x0).val
noncomputable def k124 (x0 : GIns) : Bool := hid (T124 x0).okv
noncomputable def n124 (x0 : GIns) (r : List Row × Bool) : SV × List Blk := ((.tup [(.one (.imm true 1 r.1)), (.one (.lit (.bool r.2)))]), [])
theorem e124 (x0 : GIns) : fnZ Q210 [(4, [.int .i64, .int .i64, .int .i64, .int .i64, .int .i64, .int .i64, .int .i64]), (7, [.int .i64, .int .i64, .int .i64, .int .i64, .int .i64, .int .i64, .int .i64])] [] true [] 9223372036854775808 F124 [(.agg [.lit (.int .i64 x0.Op), .lit (.int .i64 x0.Size), .lit (.int .i64 x0.Reg), .lit (.int .i64 x0.Ea.Mode), .lit (.int .i64 x0.Ea.Reg), .lit (.int .i64 x0.Ea.Ext), .lit (.int .i64 x0.Sub)])] = some ((T124 x0).map (n124 x0)) := by kernel_rfl
noncomputable def q124 : List SV → List Blk → Option ((SV × List Blk) × Bool)
  | [(.agg [.lit (.int .i64 c0), .lit (.int .i64 c1), .lit (.int .i64 c2), .lit (.int .i64 c3), .lit (.int .i64 c4), .lit (.int .i64 c5), .lit (.int .i64 c6)])], [] => some (n124 (GIns.mk c0 c1 c2 (GOperand.mk c3 c4 c5) c6) (g124 (GIns.mk c0 c1 c2 (GOperand.mk c3 c4 c5) c6)), k124 (GIns.mk c0 c1 c2 (GOperand.mk c3 c4 c5) c6))
  | _, _ => none
theorem t124 (args : List SV) (hp : List Blk) (r : SV × List Blk) (h : q124 args hp = some (r, true)) : frzR R 100124 args hp = some r := by
  unfold q124 at h
  split at h
  · rename_i c0 c1 c2 c3 c4 c5 c6
    obtain ⟨hr, hk⟩ := Prod.mk.inj (Option.some.inj h)
    exact fnZ_c (f := 124) Q210_ok (loops_of (l := []) rfl trivial) (e124 (GIns.mk c0 c1 c2 (GOperand.mk c3 c4 c5) c6)) hr hk (fun r h => R_fn at124 9223372036854775808 h)
  · simp at h
noncomputable def Q124 : Qt := qcons 100124 q124 Q210
theorem Q124_ok : QOk (frzR R) Q124 := qcons_ok t124 Q210_ok
/-! laws.sameInts -/
structure V47_0 where
  mk ::
  (s0 : List Row)
  (s1 : List Row)
  (s12 : Int)
  (s13 : Int)
noncomputable def N47_0 (v : V47_0) : Pt (Option V47_0) := (.ok true (.br (ltI v.s13 v.s12) (.ok true (.ok ((inRow [.int .i64] v.s0 v.s13) && ((inRow [.int .i64] v.s1 v.s13) && true)) (.br (neI (intAt v.s0 (Int.toNat v.s13) 0) (intAt v.s1 (Int.toNat v.s13) 0)) (.ok true (.leaf none)) (.ok true (.ok true (.leaf (some { v with s13 := (addI v.s13 1) }))))))) (.leaf none)))
noncomputable def s47_0 (v : V47_0) : St := ⟨[(0, (.one (.imm true 1 v.s0))), (1, (.one (.imm true 1 v.s1))), (12, (.one (.lit (.int .i64 v.s12)))), (13, (.one (.lit (.int .i64 v.s13))))], []⟩
def u47_0 : St → Option (V47_0 × Bool)
  | ⟨[(0, (.one (.imm true 1 c0))), (1, (.one (.imm true 1 c1))), (12, (.one (.lit (.int .i64 c2)))), (13, (.one (.lit (.int .i64 c3))))], []⟩ => some ((V47_0.mk c0 c1 c2 c3), true)
  | _ => none
theorem hN47_0 (v : V47_0) : ((evp Q124 [(18, [.int .i64]), (19, [.int .i64]), (22, [.int .i64]), (23, [.int .i64])] [] true [] 0 9223372036854775808 F47b0 (s47_0 v)).bind (stpT true false 0 [0, 1, 12, 13])) = some ((N47_0 v).map (Option.map s47_0)) := by kernel_rfl
theorem hu47_0 (σ : St) (v : V47_0) (h : u47_0 σ = some (v, true)) : σ = s47_0 v := by
  unfold u47_0 at h
  split at h
  · obtain ⟨hr, hk⟩ := Prod.mk.inj (Option.some.inj h)
    rw [← hr]
    rfl
  · simp at h
theorem lt47_0 : TellsP (lqP true false 0 [0, 1, 12, 13] (evp Q124 [(18, [.int .i64]), (19, [.int .i64]), (22, [.int .i64]), (23, [.int .i64])] [] true [] 0 9223372036854775808 F47b0) u47_0 s47_0 N47_0 9223372036854775808) (evc R 0 9223372036854775808 (.loop [0, 1, 12, 13] F47b0)) := lqP_tells (evp_tells Q124_ok (loops_of (l := []) (by kernel_rfl) trivial)) hu47_0 hN47_0
noncomputable def lq47_0 : Lp := (14, lqP true false 0 [0, 1, 12, 13] (evp Q124 [(18, [.int .i64]), (19, [.int .i64]), (22, [.int .i64]), (23, [.int .i64])] [] true [] 0 9223372036854775808 F47b0) u47_0 s47_0 N47_0 9223372036854775808) :: []
noncomputable def w47_0 (v : V47_0) : V47_0 := (hid (loopV N47_0 9223372036854775808 v)).getD v
noncomputable def i47_0 (v : V47_0) : Bool := (hid (loopV N47_0 9223372036854775808 v)).isSome
noncomputable def y47_0 (x0 : List Row) (x1 : List Row) : V47_0 := (w47_0 (V47_0.mk x0 x1 (lenI x0) 0))
noncomputable def T47 (x0 : List Row) (x1 : List Row) : Pt (Bool) := (.ok true (.ok true (.br (neI (lenI x0) (lenI x1)) (.ok true (.ok true (.ok true (.leaf false)))) (.ok true (.ok true (.ok true (.ok (i47_0 (V47_0.mk x0 x1 (lenI x0) 0)) (.br (ltI (y47_0 x0 x1).s13 (y47_0 x0 x1).s12) (.ok true (.ok true (.leaf false))) (.ok true (.ok true (.ok true (.leaf true))))))))))))
noncomputable def g47 (x0 : List Row) (x1 : List Row) : Bool := hid (T47 x0 x1).val
noncomputable def k47 (x0 : List Row) (x1 : List Row) : Bool := hid (T47 x0 x1).okv
noncomputable def n47 (x0 : List Row) (x1 : List Row) (r : Bool) : SV × List Blk := ((.one (.lit (.bool r))), [])
theorem e47 (x0 : List Row) (x1 : List Row) : fnZ Q124 [(18, [.int .i64]), (19, [.int .i64]), (22, [.int .i64]), (23, [.int .i64])] [] true lq47_0 9223372036854775808 F47 [(.one (.imm true 1 x0)), (.one (.imm true 1 x1))] = some ((T47 x0 x1).map (n47 x0 x1)) := by kernel_rfl
noncomputable def q47 : List SV → List Blk → Option ((SV × List Blk) × Bool)
  | [(.one (.imm true 1 c0)), (.one (.imm true 1 c1))], [] => some (n47 c0 c1 (g47 c0 c1), k47 c0 c1)
  | _, _ => none
theorem hL47 : Loops (fun live x => TellsP (lpAt lq47_0 (tagC x)) (evc R 0 9223372036854775808 (.loop live x))) F47.body := (loops_of (l := [([0, 1, 12, 13], F47b0)]) (by kernel_rfl) ⟨fun σ σr t h ho hl => lt47_0 σ σr t h ho hl, trivial⟩)
theorem t47 (args : List SV) (hp : List Blk) (r : SV × List Blk) (h : q47 args hp = some (r, true)) : frzR R 100047 args hp = some r := by
  unfold q47 at h
  split at h
  · rename_i c0 c1
    obtain ⟨hr, hk⟩ := Prod.mk.inj (Option.some.inj h)
    exact fnZ_c (f := 47) Q124_ok hL47 (e47 c0 c1) hr hk (fun r h => R_fn at47 9223372036854775808 h)
  · simp at h
noncomputable def Q47 : Qt := qcons 100047 q47 Q124
theorem Q47_ok : QOk (frzR R) Q47 := qcons_ok t47 Q124_ok
/-! laws.numberOf -/
structure V126_0 where
  mk ::
  (s3 : Int)
  (s6 : List Row)
  (s7 : Int)
  (s8 : Int)
noncomputable def N126_0 (v : V126_0) : Pt (Option V126_0) := (.ok true (.br (ltI v.s8 v.s7) (.ok ((inRow [.int .u8] v.s6 v.s8) && true) (.ok true (.ok true (.ok true (.leaf (some { v with s3 := (remI (addI (mulI 31 v.s3) (wrapK .i64 (intAt v.s6 (Int.toNat v.s8) 0))) 1000003), s8 := (addI v.s8 1) })))))) (.leaf none)))
noncomputable def s126_0 (v : V126_0) : St := ⟨[(3, (.one (.lit (.int .i64 v.s3)))), (6, (.one (.imm true 1 v.s6))), (7, (.one (.lit (.int .i64 v.s7)))), (8, (.one (.lit (.int .i64 v.s8))))], []⟩
def u126_0 : St → Option (V126_0 × Bool)
  | ⟨[(3, (.one (.lit (.int .i64 c0)))), (6, (.one (.imm true 1 c1))), (7, (.one (.lit (.int .i64 c2)))), (8, (.one (.lit (.int .i64 c3))))], []⟩ => some ((V126_0.mk c0 c1 c2 c3), true)
  | _ => none
theorem hN126_0 (v : V126_0) : ((evp Q47 [(10, [.int .u8]), (11, [.int .u8])] [] true [] 0 9223372036854775808 F126b0 (s126_0 v)).bind (stpT true false 0 [3, 6, 7, 8])) = some ((N126_0 v).map (Option.map s126_0)) := by kernel_rfl
theorem hu126_0 (σ : St) (v : V126_0) (h : u126_0 σ = some (v, true)) : σ = s126_0 v := by
  unfold u126_0 at h
  split at h
  · obtain ⟨hr, hk⟩ := Prod.mk.inj (Option.some.inj h)
    rw [← hr]
    rfl
  · simp at h
theorem lt126_0 : TellsP (lqP true false 0 [3, 6, 7, 8] (evp Q47 [(10, [.int .u8]), (11, [.int .u8])] [] true [] 0 9223372036854775808 F126b0) u126_0 s126_0 N126_0 9223372036854775808) (evc R 0 9223372036854775808 (.loop [3, 6, 7, 8] F126b0)) := lqP_tells (evp_tells Q47_ok (loops_of (l := []) (by kernel_rfl) trivial)) hu126_0 hN126_0
noncomputable def lq126_0 : Lp := (9, lqP true false 0 [3, 6, 7, 8] (evp Q47 [(10, [.int .u8]), (11, [.int .u8])] [] true [] 0 9223372036854775808 F126b0) u126_0 s126_0 N126_0 9223372036854775808) :: []
noncomputable def w126_0 (v : V126_0) : V126_0 := (hid (loopV N126_0 9223372036854775808 v)).getD v
noncomputable def i126_0 (v : V126_0) : Bool := (hid (loopV N126_0 9223372036854775808 v)).isSome
noncomputable def T126 (x0 : List Row) : Pt (Int) := (.ok true (.ok true (.ok true (.ok true (.ok true (.ok (i126_0 (V126_0.mk 0 x0 (lenI x0) 0)) (.ok true (.ok true (.ok true (.leaf (w126_0 (V126_0.mk 0 x0 (lenI x0) 0)).s3))))))))))
noncomputable def g126 (x0 : List Row) : Int := hid (T126 x0).val
noncomputable def k126 (x0 : List Row) : Bool := hid (T126 x0).okv
noncomputable def n126 (x0 : List Row) (r : Int) : SV × List Blk := ((.one (.lit (.int .i64 r))), [])
theorem e126 (x0 : List Row) : fnZ Q47 [(10, [.int .u8]), (11, [.int .u8])] [] true lq126_0 9223372036854775808 F126 [(.one (.imm true 1 x0))] = some ((T126 x0).map (n126 x0)) := by kernel_rfl
noncomputable def q126 : List SV → List Blk → Option ((SV × List Blk) × Bool)
  | [(.one (.imm true 1 c0))], [] => some (n126 c0 (g126 c0), k126 c0)
  | _, _ => none
theorem hL126 : Loops (fun live x => TellsP (lpAt lq126_0 (tagC x)) (evc R 0 9223372036854775808 (.loop live x))) F126.body := (loops_of (l := [([3, 6, 7, 8], F126b0)]) (by kernel_rfl) ⟨fun σ σr t h ho hl => lt126_0 σ σr t h ho hl, trivial⟩)
theorem t126 (args : List SV) (hp : List Blk) (r : SV × List Blk) (h : q126 args hp = some (r, true)) : frzR R 100126 args hp = some r := by
  unfold q126 at h
  split at h
  · rename_i c0
    obtain ⟨hr, hk⟩ := Prod.mk.inj (Option.some.inj h)
    exact fnZ_c (f := 126) Q47_ok hL126 (e126 c0) hr hk (fun r h => R_fn at126 9223372036854775808 h)
  · simp at h
noncomputable def Q126 : Qt := qcons 100126 q126 Q47
theorem Q126_ok : QOk (frzR R) Q126 := qcons_ok t126 Q47_ok
/-! impl.flag -/
noncomputable def T224 (x0 : Bool) (x1 : Int) : Pt (Int) := (.ok true (.ok true (.br x0 (.ok true (.ok true (.ok true (.leaf x1)))) (.ok true (.ok true (.ok true (.leaf 0)))))))
noncomputable def g224 (x0 : Bool) (x1 : Int) : Int := hid (T224 x0 x1).val
noncomputable def k224 (x0 : Bool) (x1 : Int) : Bool := hid (T224 x0 x1).okv
noncomputable def n224 (x0 : Bool) (x1 : Int) (r : Int) : SV × List Blk := ((.one (.lit (.int .i64 r))), [])
theorem e224 (x0 : Bool) (x1 : Int) : fnZ Q126 [] [] true [] 9223372036854775808 F224 [(.one (.lit (.bool x0))), (.one (.lit (.int .i64 x1)))] = some ((T224 x0 x1).map (n224 x0 x1)) := by kernel_rfl
noncomputable def q224 : List SV → List Blk → Option ((SV × List Blk) × Bool)
  | [(.one (.lit (.bool c0))), (.one (.lit (.int .i64 c1)))], [] => some (n224 c0 c1 (g224 c0 c1), k224 c0 c1)
  | _, _ => none
theorem t224 (args : List SV) (hp : List Blk) (r : SV × List Blk) (h : q224 args hp = some (r, true)) : frzR R 100224 args hp = some r := by
  unfold q224 at h
  split at h
  · rename_i c0 c1
    obtain ⟨hr, hk⟩ := Prod.mk.inj (Option.some.inj h)
    exact fnZ_c (f := 224) Q126_ok (loops_of (l := []) rfl trivial) (e224 c0 c1) hr hk (fun r h => R_fn at224 9223372036854775808 h)
  · simp at h
noncomputable def Q224 : Qt := qcons 100224 q224 Q126
theorem Q224_ok : QOk (frzR R) Q224 := qcons_ok t224 Q126_ok
/-! impl.longOf -/
noncomputable def y213_0 (x0 : Int) : Bool := (g203 (andI (shrI x0 5) 7))
noncomputable def T213 (x0 : Int) : Pt (Int) := (.ok true (.ok ((k203 (andI (shrI x0 5) 7)) && ((k224 (y213_0 x0) 1) && true)) (.ok true (.ok true (.leaf (addI 1 (g224 (y213_0 x0) 1)))))))
noncomputable def g213 (x0 : Int) : Int := hid (T213 x0).val
noncomputable def k213 (x0 : Int) : Bool := hid (T213 x0).okv
noncomputable def n213 (x0 : Int) (r : Int) : SV × List Blk := ((.one (.lit (.int .i64 r))), [])
theorem e213 (x0 : Int) : fnZ Q224 [] [] true [] 9223372036854775808 F213 [(.one (.lit (.int .i64 x0)))] = some ((T213 x0).map (n213 x0)) := by kernel_rfl
noncomputable def q213 : List SV → List Blk → Option ((SV × List Blk) × Bool)
  | [(.one (.lit (.int .i64 c0)))], [] => some (n213 c0 (g213 c0), k213 c0)
  | _, _ => none
theorem t213 (args : List SV) (hp : List Blk) (r : SV × List Blk) (h : q213 args hp = some (r, true)) : frzR R 100213 args hp = some r := by
  unfold q213 at h
  split at h
  · rename_i c0
    obtain ⟨hr, hk⟩ := Prod.mk.inj (Option.some.inj h)
    exact fnZ_c (f := 213) Q224_ok (loops_of (l := []) rfl trivial) (e213 c0) hr hk (fun r h => R_fn at213 9223372036854775808 h)
  · simp at h
noncomputable def Q213 : Qt := qcons 100213 q213 Q224
theorem Q213_ok : QOk (frzR R) Q213 := qcons_ok t213 Q224_ok
/-! impl.decoded -/
noncomputable def T212 (x0 : Int) (x1 : Int) : Pt (GIns) := (.ok true (.ok true (.ok true (.ok ((k213 x0) && true) (.br (eqI (g213 x0) 2) (.ok true (.ok true (.ok true (.ok true (.leaf (GIns.mk (shrI x0 11) (addI (andI (shrI x0 10) 1) 1) (andI (shrI x0 8) 3) (GOperand.mk (andI (shrI x0 5) 7) (andI (shrI x0 3) 3) x1) (andI x0 7))))))) (.ok true (.ok true (.ok true (.leaf (GIns.mk (shrI x0 11) (addI (andI (shrI x0 10) 1) 1) (andI (shrI x0 8) 3) (GOperand.mk (andI (shrI x0 5) 7) (andI (shrI x0 3) 3) 0) (andI x0 7)))))))))))
noncomputable def g212 (x0 : Int) (x1 : Int) : GIns := hid (T212 x0 x1).val
noncomputable def k212 (x0 : Int) (x1 : Int) : Bool := hid (T212 x0 x1).okv
noncomputable def n212 (x0 : Int) (x1 : Int) (r : GIns) : SV × List Blk := ((.agg [.lit (.int .i64 r.Op), .lit (.int .i64 r.Size), .lit (.int .i64 r.Reg), .lit (.int .i64 r.Ea.Mode), .lit (.int .i64 r.Ea.Reg), .lit (.int .i64 r.Ea.Ext), .lit (.int .i64 r.Sub)]), [])
theorem e212 (x0 : Int) (x1 : Int) : fnZ Q213 [(32, [.int .i64, .int .i64, .int .i64, .int .i64, .int .i64, .int .i64, .int .i64])] [] true [] 9223372036854775808 F212 [(.one (.lit (.int .i64 x0))), (.one (.lit (.int .i64 x1)))] = some ((T212 x0 x1).map (n212 x0 x1)) := by kernel_rfl
noncomputable def q212 : List SV → List Blk → Option ((SV × List Blk) × Bool)
  | [(.one (.lit (.int .i64 c0))), (.one (.lit (.int .i64 c1)))], [] => some (n212 c0 c1 (g212 c0 c1), k212 c0 c1)
  | _, _ => none
theorem t212 (args : List SV) (hp : List Blk) (r : SV × List Blk) (h : q212 args hp = some (r, true)) : frzR R 100212 args hp = some r := by
  unfold q212 at h
  split at h
  · rename_i c0 c1
    obtain ⟨hr, hk⟩ := Prod.mk.inj (Option.some.inj h)
    exact fnZ_c (f := 212) Q213_ok (loops_of (l := []) rfl trivial) (e212 c0 c1) hr hk (fun r h => R_fn at212 9223372036854775808 h)
  · simp at h
noncomputable def Q212 : Qt := qcons 100212 q212 Q213
theorem Q212_ok : QOk (frzR R) Q212 := qcons_ok t212 Q213_ok
/-! impl.DecodeIns -/
noncomputable def T127 (x0 : Int) (x1 : Int) : Pt (GIns × Int × Bool) := (.ok true (.ok ((k160 x0) && ((((k160 x1) && true) || (!(g160 x0))) && true)) (.br (bif (!(g160 x0)) then true else (!(g160 x1))) (.ok true (.ok true (.ok true (.leaf ((GIns.mk 0 0 0 (GOperand.mk 0 0 0) 0), 0, false))))) (.ok ((k212 x0 x1) && true) (.ok ((k125 (g212 x0 x1)) && true) (.br (!(g125 (g212 x0 x1))) (.ok true (.ok true (.ok true (.leaf ((GIns.mk 0 0 0 (GOperand.mk 0 0 0) 0), 0, false))))) (.ok (((k213 x0) && true) && true) (.ok true (.ok true (.leaf ((g212 x0 x1), (g213 x0), true)))))))))))
noncomputable def g127 (x0 : Int) (x1 : Int) : GIns × Int × Bool := hid (T127 x0 x1).val
noncomputable def k127 (x0 : Int) (x1 : Int) : Bool := hid (T127 x0 x1).okv
noncomputable def n127 (x0 : Int) (x1 : Int) (r : GIns × Int × Bool) : SV × List Blk := ((.tup [(.agg [.lit (.int .i64 r.1.Op), .lit (.int .i64 r.1.Size), .lit (.int .i64 r.1.Reg), .lit (.int .i64 r.1.Ea.Mode), .lit (.int .i64 r.1.Ea.Reg), .lit (.int .i64 r.1.Ea.Ext), .lit (.int .i64 r.1.Sub)]), (.one (.lit (.int .i64 r.2.1))), (.one (.lit (.bool r.2.2)))]), [])
theorem e127 (x0 : Int) (x1 : Int) : fnZ Q212 [(20, [.int .i64, .int .i64, .int .i64, .int .i64, .int .i64, .int .i64, .int .i64]), (24, [.int .i64, .int .i64, .int .i64, .int .i64, .int .i64, .int .i64, .int .i64])] [] true [] 9223372036854775808 F127 [(.one (.lit (.int .i64 x0))), (.one (.lit (.int .i64 x1)))] = some ((T127 x0 x1).map (n127 x0 x1)) := by kernel_rfl
noncomputable def q127 : List SV → List Blk → Option ((SV × List Blk) × Bool)
  | [(.one (.lit (.int .i64 c0))), (.one (.lit (.int .i64 c1)))], [] => some (n127 c0 c1 (g127 c0 c1), k127 c0 c1)
  | _, _ => none
theorem t127 (args : List SV) (hp : List Blk) (r : SV × List Blk) (h : q127 args hp = some (r, true)) : frzR R 100127 args hp = some r := by
  unfold q127 at h
  split at h
  · rename_i c0 c1
    obtain ⟨hr, hk⟩ := Prod.mk.inj (Option.some.inj h)
    exact fnZ_c (f := 127) Q212_ok (loops_of (l := []) rfl trivial) (e127 c0 c1) hr hk (fun r h => R_fn at127 9223372036854775808 h)
  · simp at h
noncomputable def Q127 : Qt := qcons 100127 q127 Q212
theorem Q127_ok : QOk (frzR R) Q127 := qcons_ok t127 Q212_ok
/-! impl.LongIns -/
noncomputable def T128 (x0 : Int) : Pt (Int × Bool) := (.ok true (.ok ((k160 x0) && true) (.br (!(g160 x0)) (.ok true (.ok true (.ok true (.leaf (0, false))))) (.ok ((k213 x0) && true) (.ok true (.ok true (.leaf ((g213 x0), true))))))))
noncomputable def g128 (x0 : Int) : Int × Bool := hid (T128 x0).val
noncomputable def k128 (x0 : Int) : Bool := hid (T128 x0).okv
noncomputable def n128 (x0 : Int) (r : Int × Bool) : SV × List Blk := ((.tup [(.one (.lit (.int .i64 r.1))), (.one (.lit (.bool r.2)))]), [])
theorem e128 (x0 : Int) : fnZ Q127 [] [] true [] 9223372036854775808 F128 [(.one (.lit (.int .i64 x0)))] = some ((T128 x0).map (n128 x0)) := by kernel_rfl
noncomputable def q128 : List SV → List Blk → Option ((SV × List Blk) × Bool)
  | [(.one (.lit (.int .i64 c0)))], [] => some (n128 c0 (g128 c0), k128 c0)
  | _, _ => none
theorem t128 (args : List SV) (hp : List Blk) (r : SV × List Blk) (h : q128 args hp = some (r, true)) : frzR R 100128 args hp = some r := by
  unfold q128 at h
  split at h
  · rename_i c0
    obtain ⟨hr, hk⟩ := Prod.mk.inj (Option.some.inj h)
    exact fnZ_c (f := 128) Q127_ok (loops_of (l := []) rfl trivial) (e128 c0) hr hk (fun r h => R_fn at128 9223372036854775808 h)
  · simp at h
noncomputable def Q128 : Qt := qcons 100128 q128 Q127
theorem Q128_ok : QOk (frzR R) Q128 := qcons_ok t128 Q127_ok
/-! (*spec.l1Cur).value -/
noncomputable def y166_0 (x0 : Gl1Cur) : Gl1Cur × Int := (g133 [(rowI 0), (rowI 1), (rowI 127), (rowI 128), (rowI 255), (rowI 256), (rowI 32767), (rowI 32768), (rowI 65535), (rowI 65536), (rowI (-1))] (g167 2 x0).1)
noncomputable def y166_1 (x0 : Gl1Cur) : Gl1Cur × Int := (g141 2 (g141 256 (g167 2 x0).1).1)
noncomputable def T166 (x0 : Gl1Cur) : Pt (Gl1Cur × Int) := (.ok true (.ok ((k167 2 x0) && true) (.br (g167 2 x0).2 (.ok ((k133 [(rowI 0), (rowI 1), (rowI 127), (rowI 128), (rowI 255), (rowI 256), (rowI 32767), (rowI 32768), (rowI 65535), (rowI 65536), (rowI (-1))] (g167 2 x0).1) && true) (.ok true (.leaf ((y166_0 x0).1, (y166_0 x0).2)))) (.ok ((k141 256 (g167 2 x0).1) && ((k141 2 (g141 256 (g167 2 x0).1).1) && ((k141 256 (y166_1 x0).1) && true))) (.ok true (.leaf ((g141 256 (y166_1 x0).1).1, (addI (mulI (mulI (g141 256 (g167 2 x0).1).2 (y166_1 x0).2) 256) (g141 256 (y166_1 x0).1).2))))))))
noncomputable def g166 (x0 : Gl1Cur) : Gl1Cur × Int := hid (T166 x0).val
noncomputable def k166 (x0 : Gl1Cur) : Bool := hid (T166 x0).okv
noncomputable def n166 (x0 : Gl1Cur) (r : Gl1Cur × Int) : SV × List Blk := ((.one (.lit (.int .i64 r.2))), [.box [.imm true 1 r.1.fcode, .lit (.int .i64 r.1.fat), .lit (.int .u64 r.1.fseed)]])
theorem e166 (x0 : Gl1Cur) : fnP Q128 [] [] true [] 9223372036854775808 F166 [(.one (.ptr 0 0 0))] [.box [.imm true 1 x0.fcode, .lit (.int .i64 x0.fat), .lit (.int .u64 x0.fseed)]] = some ((T166 x0).map (n166 x0)) := by kernel_rfl
noncomputable def q166 : List SV → List Blk → Option ((SV × List Blk) × Bool)
  | [(.one (.ptr 0 0 0))], [.box [.imm true 1 c0, .lit (.int .i64 c1), .lit (.int .u64 c2)]] => some (n166 (Gl1Cur.mk c0 c1 c2) (g166 (Gl1Cur.mk c0 c1 c2)), k166 (Gl1Cur.mk c0 c1 c2))
  | _, _ => none
theorem t166 (args : List SV) (hp : List Blk) (r : SV × List Blk) (h : q166 args hp = some (r, true)) : frzR R 166 args hp = some r := by
  unfold q166 at h
  split at h
  · rename_i c0 c1 c2
    obtain ⟨hr, hk⟩ := Prod.mk.inj (Option.some.inj h)
    exact (frz_lo (by decide)).trans (R_fn at166 9223372036854775808 (fnP_c Q128_ok (loops_of (l := []) rfl trivial) (e166 (Gl1Cur.mk c0 c1 c2)) hr hk))
  · simp at h
noncomputable def Q166 : Qt := qcons 166 q166 Q128
theorem Q166_ok : QOk (frzR R) Q166 := qcons_ok t166 Q128_ok
/-! spec.DrawDecodeIns -/
noncomputable def y129_0 (x0 : List Row) : Gl1Cur × GIns := (g214 (Gl1Cur.mk x0 0 0))
noncomputable def y129_1 (x0 : List Row) : List Row := (bif (!(!(g124 (y129_0 x0).2).2)) then (g167 4 (y129_0 x0).1).1.fcode else (y129_0 x0).1.fcode)
noncomputable def y129_2 (x0 : List Row) : Int := (bif (!(!(g124 (y129_0 x0).2).2)) then (g167 4 (y129_0 x0).1).1.fat else (y129_0 x0).1.fat)
noncomputable def y129_3 (x0 : List Row) : Int := (bif (!(!(g124 (y129_0 x0).2).2)) then (g167 4 (y129_0 x0).1).1.fseed else (y129_0 x0).1.fseed)
noncomputable def y129_4 (x0 : List Row) : Gl1Cur := (Gl1Cur.mk (y129_1 x0) (y129_2 x0) (y129_3 x0))
noncomputable def y129_5 (x0 : List Row) : Gl1Cur × Int := (g141 256 (g141 256 (y129_4 x0)).1)
noncomputable def y129_6 (x0 : List Row) : Bool := (inRow [.int .i64] (g124 (y129_0 x0).2).1 0)
noncomputable def y129_7 (x0 : List Row) : Bool := (k166 (Gl1Cur.mk (bif (eqI (lenI (g124 (y129_0 x0).2).1) 2) then (g167 12 (y129_4 x0)).1.fcode else (y129_1 x0)) (bif (eqI (lenI (g124 (y129_0 x0).2).1) 2) then (g167 12 (y129_4 x0)).1.fat else (y129_2 x0)) (bif (eqI (lenI (g124 (y129_0 x0).2).1) 2) then (g167 12 (y129_4 x0)).1.fseed else (y129_3 x0))))
noncomputable def y129_8 (x0 : List Row) : Bool := (((y129_6 x0) && ((y129_7 x0) && true)) && true)
noncomputable def y129_9 (x0 : List Row) : Gl1Cur × Int := (g166 (Gl1Cur.mk (bif (eqI (lenI (g124 (y129_0 x0).2).1) 2) then (g167 12 (y129_4 x0)).1.fcode else (y129_1 x0)) (bif (eqI (lenI (g124 (y129_0 x0).2).1) 2) then (g167 12 (y129_4 x0)).1.fat else (y129_2 x0)) (bif (eqI (lenI (g124 (y129_0 x0).2).1) 2) then (g167 12 (y129_4 x0)).1.fseed else (y129_3 x0))))
noncomputable def y129_10 (x0 : List Row) : Bool := (((same (α := Int) (intAt (g124 (y129_0 x0).2).1 0 0) (intAt (g124 (y129_0 x0).2).1 0 0)) && ((same (α := Int) (y129_9 x0).2 (y129_9 x0).2) && true)) && ((((same (α := Bool) true true) && (sameR (y129_9 x0).1.fcode (y129_9 x0).1.fcode)) && ((same (α := Int) (y129_9 x0).1.fat (y129_9 x0).1.fat) && ((same (α := Int) (y129_9 x0).1.fseed (y129_9 x0).1.fseed) && true))) && true))
noncomputable def T129 (x0 : List Row) : Pt (Int × Int) := (.ok true (.ok true (.ok ((k214 (Gl1Cur.mk x0 0 0)) && ((k124 (y129_0 x0).2) && true)) (.ok ((((k167 4 (y129_0 x0).1) && true) || (!(g124 (y129_0 x0).2).2)) && true) (.br (bif (!(g124 (y129_0 x0).2).2) then true else (g167 4 (y129_0 x0).1).2) (.ok ((k141 256 (y129_4 x0)) && ((k141 256 (g141 256 (y129_4 x0)).1) && ((k166 (y129_5 x0).1) && true))) (.ok true (.ok true (.leaf ((addI (mulI (g141 256 (y129_4 x0)).2 256) (y129_5 x0).2), (g166 (y129_5 x0).1).2))))) (.ok ((((k167 12 (y129_4 x0)) && true) || (!(eqI (lenI (g124 (y129_0 x0).2).1) 2))) && true) (.br (bif (eqI (lenI (g124 (y129_0 x0).2).1) 2) then (!(g167 12 (y129_4 x0)).2) else false) (.ok ((y129_6 x0) && ((inRow [.int .i64] (g124 (y129_0 x0).2).1 1) && true)) (.ok true (.ok true (.leaf ((intAt (g124 (y129_0 x0).2).1 0 0), (intAt (g124 (y129_0 x0).2).1 1 0)))))) (.ok ((y129_8 x0) && (((y129_8 x0) && ((((y129_7 x0) && ((y129_6 x0) && true)) && true) && (y129_10 x0))) && (y129_10 x0))) (.ok true (.ok true (.leaf ((intAt (g124 (y129_0 x0).2).1 0 0), (y129_9 x0).2))))))))))))
noncomputable def g129 (x0 : List Row) : Int × Int := hid (T129 x0).val
noncomputable def k129 (x0 : List Row) : Bool := hid (T129 x0).okv
noncomputable def n129 (x0 : List Row) (r : Int × Int) : SV × List Blk := ((.tup [(.one (.lit (.int .i64 r.1))), (.one (.lit (.int .i64 r.2)))]), [])
theorem e129 (x0 : List Row) : fnZ Q166 [(39, [.int .i64]), (40, [.int .i64]), (42, [.int .i64]), (43, [.int .i64]), (45, [.int .i64]), (46, [.int .i64])] [] true [] 9223372036854775808 F129 [(.one (.imm true 1 x0))] = some ((T129 x0).map (n129 x0)) := by kernel_rfl
noncomputable def q129 : List SV → List Blk → Option ((SV × List Blk) × Bool)
  | [(.one (.imm true 1 c0))], [] => some (n129 c0 (g129 c0), k129 c0)
  | _, _ => none
theorem t129 (args : List SV) (hp : List Blk) (r : SV × List Blk) (h : q129 args hp = some (r, true)) : frzR R 100129 args hp = some r := by
  unfold q129 at h
  split at h
  · rename_i c0
    obtain ⟨hr, hk⟩ := Prod.mk.inj (Option.some.inj h)
    exact fnZ_c (f := 129) Q166_ok (loops_of (l := []) rfl trivial) (e129 c0) hr hk (fun r h => R_fn at129 9223372036854775808 h)
  · simp at h
noncomputable def Q129 : Qt := qcons 100129 q129 Q166
theorem Q129_ok : QOk (frzR R) Q129 := qcons_ok t129 Q166_ok
/-! spec.l7Long -/
noncomputable def T216 (x0 : Int) : Pt (Int) := (.ok true (.ok ((k204 (andI (shrI x0 5) 7)) && true) (.br (g204 (andI (shrI x0 5) 7)) (.ok true (.ok true (.ok true (.leaf 2)))) (.ok true (.ok true (.ok true (.leaf 1)))))))
noncomputable def g216 (x0 : Int) : Int := hid (T216 x0).val
noncomputable def k216 (x0 : Int) : Bool := hid (T216 x0).okv
noncomputable def n216 (x0 : Int) (r : Int) : SV × List Blk := ((.one (.lit (.int .i64 r))), [])
theorem e216 (x0 : Int) : fnZ Q129 [] [] true [] 9223372036854775808 F216 [(.one (.lit (.int .i64 x0)))] = some ((T216 x0).map (n216 x0)) := by kernel_rfl
noncomputable def q216 : List SV → List Blk → Option ((SV × List Blk) × Bool)
  | [(.one (.lit (.int .i64 c0)))], [] => some (n216 c0 (g216 c0), k216 c0)
  | _, _ => none
theorem t216 (args : List SV) (hp : List Blk) (r : SV × List Blk) (h : q216 args hp = some (r, true)) : frzR R 100216 args hp = some r := by
  unfold q216 at h
  split at h
  · rename_i c0
    obtain ⟨hr, hk⟩ := Prod.mk.inj (Option.some.inj h)
    exact fnZ_c (f := 216) Q129_ok (loops_of (l := []) rfl trivial) (e216 c0) hr hk (fun r h => R_fn at216 9223372036854775808 h)
  · simp at h
noncomputable def Q216 : Qt := qcons 100216 q216 Q129
theorem Q216_ok : QOk (frzR R) Q216 := qcons_ok t216 Q129_ok
/-! spec.l7Decode -/
noncomputable def T215 (x0 : Int) (x1 : Int) : Pt (GIns) := (.ok true (.ok true (.ok true (.ok ((k216 x0) && true) (.br (eqI (g216 x0) 2) (.ok true (.ok true (.ok true (.ok true (.leaf (GIns.mk (shrI x0 11) (addI (andI (shrI x0 10) 1) 1) (andI (shrI x0 8) 3) (GOperand.mk (andI (shrI x0 5) 7) (andI (shrI x0 3) 3) x1) (andI x0 7))))))) (.ok true (.ok true (.ok true (.leaf (GIns.mk (shrI x0 11) (addI (andI (shrI x0 10) 1) 1) (andI (shrI x0 8) 3) (GOperand.mk (andI (shrI x0 5) 7) (andI (shrI x0 3) 3) 0) (andI x0 7)))))))))))
noncomputable def g215 (x0 : Int) (x1 : Int) : GIns := hid (T215 x0 x1).val
noncomputable def k215 (x0 : Int) (x1 : Int) : Bool := hid (T215 x0 x1).okv
noncomputable def n215 (x0 : Int) (x1 : Int) (r : GIns) : SV × List Blk := ((.agg [.lit (.int .i64 r.Op), .lit (.int .i64 r.Size), .lit (.int .i64 r.Reg), .lit (.int .i64 r.Ea.Mode), .lit (.int .i64 r.Ea.Reg), .lit (.int .i64 r.Ea.Ext), .lit (.int .i64 r.Sub)]), [])
theorem e215 (x0 : Int) (x1 : Int) : fnZ Q216 [(32, [.int .i64, .int .i64, .int .i64, .int .i64, .int .i64, .int .i64, .int .i64])] [] true [] 9223372036854775808 F215 [(.one (.lit (.int .i64 x0))), (.one (.lit (.int .i64 x1)))] = some ((T215 x0 x1).map (n215 x0 x1)) := by kernel_rfl
noncomputable def q215 : List SV → List Blk → Option ((SV × List Blk) × Bool)
  | [(.one (.lit (.int .i64 c0))), (.one (.lit (.int .i64 c1)))], [] => some (n215 c0 c1 (g215 c0 c1), k215 c0 c1)
  | _, _ => none
theorem t215 (args : List SV) (hp : List Blk) (r : SV × List Blk) (h : q215 args hp = some (r, true)) : frzR R 100215 args hp = some r := by
  unfold q215 at h
  split at h
  · rename_i c0 c1
    obtain ⟨hr, hk⟩ := Prod.mk.inj (Option.some.inj h)
    exact fnZ_c (f := 215) Q216_ok (loops_of (l := []) rfl trivial) (e215 c0 c1) hr hk (fun r h => R_fn at215 9223372036854775808 h)
  · simp at h
noncomputable def Q215 : Qt := qcons 100215 q215 Q216
theorem Q215_ok : QOk (frzR R) Q215 := qcons_ok t215 Q216_ok
/-! spec.DecodeIns -/
noncomputable def T130 (x0 : Int) (x1 : Int) : Pt (GIns × Int × Bool) := (.ok true (.ok ((k162 x0) && ((((k162 x1) && true) || (!(g162 x0))) && true)) (.br (bif (!(g162 x0)) then true else (!(g162 x1))) (.ok true (.ok true (.ok true (.leaf ((GIns.mk 0 0 0 (GOperand.mk 0 0 0) 0), 0, false))))) (.ok ((k215 x0 x1) && true) (.ok ((k209 (g215 x0 x1)) && true) (.br (!(g209 (g215 x0 x1))) (.ok true (.ok true (.ok true (.leaf ((GIns.mk 0 0 0 (GOperand.mk 0 0 0) 0), 0, false))))) (.ok (((k216 x0) && true) && true) (.ok true (.ok true (.leaf ((g215 x0 x1), (g216 x0), true)))))))))))
noncomputable def g130 (x0 : Int) (x1 : Int) : GIns × Int × Bool := hid (T130 x0 x1).val
noncomputable def k130 (x0 : Int) (x1 : Int) : Bool := hid (T130 x0 x1).okv
noncomputable def n130 (x0 : Int) (x1 : Int) (r : GIns × Int × Bool) : SV × List Blk := ((.tup [(.agg [.lit (.int .i64 r.1.Op), .lit (.int .i64 r.1.Size), .lit (.int .i64 r.1.Reg), .lit (.int .i64 r.1.Ea.Mode), .lit (.int .i64 r.1.Ea.Reg), .lit (.int .i64 r.1.Ea.Ext), .lit (.int .i64 r.1.Sub)]), (.one (.lit (.int .i64 r.2.1))), (.one (.lit (.bool r.2.2)))]), [])
theorem e130 (x0 : Int) (x1 : Int) : fnZ Q215 [(20, [.int .i64, .int .i64, .int .i64, .int .i64, .int .i64, .int .i64, .int .i64]), (24, [.int .i64, .int .i64, .int .i64, .int .i64, .int .i64, .int .i64, .int .i64])] [] true [] 9223372036854775808 F130 [(.one (.lit (.int .i64 x0))), (.one (.lit (.int .i64 x1)))] = some ((T130 x0 x1).map (n130 x0 x1)) := by kernel_rfl
noncomputable def q130 : List SV → List Blk → Option ((SV × List Blk) × Bool)
  | [(.one (.lit (.int .i64 c0))), (.one (.lit (.int .i64 c1)))], [] => some (n130 c0 c1 (g130 c0 c1), k130 c0 c1)
  | _, _ => none
theorem t130 (args : List SV) (hp : List Blk) (r : SV × List Blk) (h : q130 args hp = some (r, true)) : frzR R 100130 args hp = some r := by
  unfold q130 at h
  split at h
  · rename_i c0 c1
    obtain ⟨hr, hk⟩ := Prod.mk.inj (Option.some.inj h)
    exact fnZ_c (f := 130) Q215_ok (loops_of (l := []) rfl trivial) (e130 c0 c1) hr hk (fun r h => R_fn at130 9223372036854775808 h)
  · simp at h
noncomputable def Q130 : Qt := qcons 100130 q130 Q215
theorem Q130_ok : QOk (frzR R) Q130 := qcons_ok t130 Q215_ok
/-! spec.DrawLongIns -/
noncomputable def T131 (x0 : List Row) : Pt (Int) := (.ok true (.ok true (.ok ((k166 (Gl1Cur.mk x0 0 0)) && true) (.ok true (.ok true (.leaf (g166 (Gl1Cur.mk x0 0 0)).2))))))
noncomputable def g131 (x0 : List Row) : Int := hid (T131 x0).val
noncomputable def k131 (x0 : List Row) : Bool := hid (T131 x0).okv
noncomputable def n131 (x0 : List Row) (r : Int) : SV × List Blk := ((.one (.lit (.int .i64 r))), [])
theorem e131 (x0 : List Row) : fnZ Q130 [] [] true [] 9223372036854775808 F131 [(.one (.imm true 1 x0))] = some ((T131 x0).map (n131 x0)) := by kernel_rfl
noncomputable def q131 : List SV → List Blk → Option ((SV × List Blk) × Bool)
  | [(.one (.imm true 1 c0))], [] => some (n131 c0 (g131 c0), k131 c0)
  | _, _ => none
theorem t131 (args : List SV) (hp : List Blk) (r : SV × List Blk) (h : q131 args hp = some (r, true)) : frzR R 100131 args hp = some r := by
  unfold q131 at h
  split at h
  · rename_i c0
    obtain ⟨hr, hk⟩ := Prod.mk.inj (Option.some.inj h)
    exact fnZ_c (f := 131) Q130_ok (loops_of (l := []) rfl trivial) (e131 c0) hr hk (fun r h => R_fn at131 9223372036854775808 h)
  · simp at h
noncomputable def Q131 : Qt := qcons 100131 q131 Q130
theorem Q131_ok : QOk (frzR R) Q131 := qcons_ok t131 Q130_ok
/-! spec.LongIns -/
noncomputable def T132 (x0 : Int) : Pt (Int × Bool) := (.ok true (.ok ((k162 x0) && true) (.br (!(g162 x0)) (.ok true (.ok true (.ok true (.leaf (0, false))))) (.ok ((k216 x0) && true) (.ok true (.ok true (.leaf ((g216 x0), true))))))))
noncomputable def g132 (x0 : Int) : Int × Bool := hid (T132 x0).val
noncomputable def k132 (x0 : Int) : Bool := hid (T132 x0).okv
noncomputable def n132 (x0 : Int) (r : Int × Bool) : SV × List Blk := ((.tup [(.one (.lit (.int .i64 r.1))), (.one (.lit (.bool r.2)))]), [])
theorem e132 (x0 : Int) : fnZ Q131 [] [] true [] 9223372036854775808 F132 [(.one (.lit (.int .i64 x0)))] = some ((T132 x0).map (n132 x0)) := by kernel_rfl
noncomputable def q132 : List SV → List Blk → Option ((SV × List Blk) × Bool)
  | [(.one (.lit (.int .i64 c0)))], [] => some (n132 c0 (g132 c0), k132 c0)
  | _, _ => none
theorem t132 (args : List SV) (hp : List Blk) (r : SV × List Blk) (h : q132 args hp = some (r, true)) : frzR R 100132 args hp = some r := by
  unfold q132 at h
  split at h
  · rename_i c0
    obtain ⟨hr, hk⟩ := Prod.mk.inj (Option.some.inj h)
    exact fnZ_c (f := 132) Q131_ok (loops_of (l := []) rfl trivial) (e132 c0) hr hk (fun r h => R_fn at132 9223372036854775808 h)
  · simp at h
noncomputable def Q132 : Qt := qcons 100132 q132 Q131
theorem Q132_ok : QOk (frzR R) Q132 := qcons_ok t132 Q131_ok
/-! laws.FnCode -/
noncomputable def y14_0 (x0 : List Row) : Bool := (!(eqB (g123 (g122 x0)).2 (g124 (g122 x0)).2))
noncomputable def y14_1 (x0 : List Row) : Bool := (bif (y14_0 x0) then true else (!(g47 (g123 (g122 x0)).1 (g124 (g122 x0)).1)))
noncomputable def y14_2 (x0 : List Row) (x1 : List Row) : Int := (bif (eqI (lenI (g123 (g122 x0)).1) 2) then (intAt (g123 (g122 x0)).1 1 0) else (remI (g126 x1) 65536))
noncomputable def y14_3 (x0 : List Row) (x1 : List Row) : GIns × Int × Bool := (g127 (intAt (g123 (g122 x0)).1 0 0) (y14_2 x0 x1))
noncomputable def y14_4 (x0 : List Row) (x1 : List Row) : Bool := (bif (bif (!(y14_3 x0 x1).2.2) then true else (!((eqI (y14_3 x0 x1).1.Op (g122 x0).Op) && ((eqI (y14_3 x0 x1).1.Size (g122 x0).Size) && ((eqI (y14_3 x0 x1).1.Reg (g122 x0).Reg) && ((eqI (y14_3 x0 x1).1.Ea.Mode (g122 x0).Ea.Mode) && ((eqI (y14_3 x0 x1).1.Ea.Reg (g122 x0).Ea.Reg) && ((eqI (y14_3 x0 x1).1.Ea.Ext (g122 x0).Ea.Ext) && ((eqI (y14_3 x0 x1).1.Sub (g122 x0).Sub) && true))))))))) then true else (neI (y14_3 x0 x1).2.1 (lenI (g123 (g122 x0)).1)))
noncomputable def y14_5 (x0 : List Row) : Int × Bool := (g128 (intAt (g123 (g122 x0)).1 0 0))
noncomputable def y14_6 (x1 : List Row) : GIns × Int × Bool := (g127 (g129 x1).1 (g129 x1).2)
noncomputable def y14_7 (x1 : List Row) : GIns × Int × Bool := (g130 (g129 x1).1 (g129 x1).2)
noncomputable def y14_8 (x1 : List Row) : Bool := (bif (bif (!(eqB (y14_6 x1).2.2 (y14_7 x1).2.2)) then true else (neI (y14_6 x1).2.1 (y14_7 x1).2.1)) then true else (!((eqI (y14_6 x1).1.Op (y14_7 x1).1.Op) && ((eqI (y14_6 x1).1.Size (y14_7 x1).1.Size) && ((eqI (y14_6 x1).1.Reg (y14_7 x1).1.Reg) && ((eqI (y14_6 x1).1.Ea.Mode (y14_7 x1).1.Ea.Mode) && ((eqI (y14_6 x1).1.Ea.Reg (y14_7 x1).1.Ea.Reg) && ((eqI (y14_6 x1).1.Ea.Ext (y14_7 x1).1.Ea.Ext) && ((eqI (y14_6 x1).1.Sub (y14_7 x1).1.Sub) && true)))))))))
noncomputable def y14_9 (x1 : List Row) : Bool := (bif (bif (y14_8 x1) then true else (!(eqB (g128 (g131 x1)).2 (g132 (g131 x1)).2))) then true else (neI (g128 (g131 x1)).1 (g132 (g131 x1)).1))
noncomputable def y14_10 (x1 : List Row) : Bool := (bif (g123 (y14_6 x1).1).2 then (eqI (lenI (g123 (y14_6 x1).1).1) (y14_6 x1).2.1) else false)
noncomputable def y14_11 (x1 : List Row) : Bool := (bif (y14_10 x1) then (eqI (intAt (g123 (y14_6 x1).1).1 0 0) (g129 x1).1) else false)
noncomputable def y14_12 (x1 : List Row) : Bool := ((((inRow [.int .i64] (g123 (y14_6 x1).1).1 0) && true) || (!(y14_10 x1))) && ((((((inRow [.int .i64] (g123 (y14_6 x1).1).1 1) && true) || (eqI (y14_6 x1).2.1 1)) && true) || (!(y14_11 x1))) && true))
noncomputable def y14_13 (x1 : List Row) : Bool := (bif (y14_11 x1) then (bif (eqI (y14_6 x1).2.1 1) then true else (eqI (intAt (g123 (y14_6 x1).1).1 1 0) (g129 x1).2)) else false)
noncomputable def T14 (x0 : List Row) (x1 : List Row) : Pt (Bool) := (.ok true (.ok true (.br (gtI (addI (lenI x0) (lenI x1)) 1048576) (.ok true (.ok true (.leaf true))) (.ok ((k122 x0) && true) (.ok ((k123 (g122 x0)) && true) (.ok ((k124 (g122 x0)) && true) (.ok ((((k47 (g123 (g122 x0)).1 (g124 (g122 x0)).1) && true) || (y14_0 x0)) && ((((k125 (g122 x0)) && true) || (y14_1 x0)) && true)) (.br (bif (y14_1 x0) then true else (!(eqB (g125 (g122 x0)) (g124 (g122 x0)).2))) (.ok true (.ok true (.leaf false))) (.ok true (.br (g123 (g122 x0)).2 (.ok ((k126 x1) && true) (.ok true (.ok ((((inRow [.int .i64] (g123 (g122 x0)).1 1) && true) || (!(eqI (lenI (g123 (g122 x0)).1) 2))) && true) (.ok ((inRow [.int .i64] (g123 (g122 x0)).1 0) && ((k127 (intAt (g123 (g122 x0)).1 0 0) (y14_2 x0 x1)) && true)) (.ok ((inRow [.int .i64] (g123 (g122 x0)).1 0) && ((k128 (intAt (g123 (g122 x0)).1 0 0)) && true)) (.ok true (.br (bif (bif (y14_4 x0 x1) then true else (!(y14_5 x0).2)) then true else (neI (y14_5 x0).1 (y14_3 x0 x1).2.1)) (.ok true (.ok true (.leaf false))) (.ok ((k129 x1) && true) (.ok ((k127 (g129 x1).1 (g129 x1).2) && true) (.ok ((k130 (g129 x1).1 (g129 x1).2) && true) (.ok ((k131 x1) && true) (.ok ((k128 (g131 x1)) && true) (.ok ((k132 (g131 x1)) && true) (.ok true (.br (y14_9 x1) (.ok true (.ok true (.leaf false))) (.ok true (.br (y14_6 x1).2.2 (.ok ((k123 (y14_6 x1).1) && true) (.ok (y14_12 x1) (.ok true (.leaf (y14_13 x1))))) (.ok true (.ok true (.leaf true)))))))))))))))))))) (.ok ((k129 x1) && true) (.ok ((k127 (g129 x1).1 (g129 x1).2) && true) (.ok ((k130 (g129 x1).1 (g129 x1).2) && true) (.ok ((k131 x1) && true) (.ok ((k128 (g131 x1)) && true) (.ok ((k132 (g131 x1)) && true) (.ok true (.br (y14_9 x1) (.ok true (.ok true (.leaf false))) (.ok true (.br (y14_6 x1).2.2 (.ok ((k123 (y14_6 x1).1) && true) (.ok (y14_12 x1) (.ok true (.leaf (y14_13 x1))))) (.ok true (.ok true (.leaf true)))))))))))))))))))))))
noncomputable def g14 (x0 : List Row) (x1 : List Row) : Bool := hid (T14 x0 x1).val
noncomputable def k14 (x0 : List Row) (x1 : List Row) : Bool := hid (T14 x0 x1).okv
noncomputable def n14 (x0 : List Row) (x1 : List Row) (r : Bool) : SV × List Blk := ((.one (.lit (.bool r))), [])
theorem e14 (x0 : List Row) (x1 : List Row) : fnP Q132 [(40, [.int .i64, .int .i64, .int .i64, .int .i64, .int .i64, .int .i64, .int .i64]), (45, [.int .i64, .int .i64, .int .i64, .int .i64, .int .i64, .int .i64, .int .i64]), (59, [.int .i64, .int .i64, .int .i64, .int .i64, .int .i64, .int .i64, .int .i64]), (72, [.int .i64]), (73, [.int .i64]), (76, [.int .i64]), (77, [.int .i64]), (85, [.int .i64]), (86, [.int .i64]), (93, [.int .i64, .int .i64, .int .i64, .int .i64, .int .i64, .int .i64, .int .i64]), (94, [.int .i64, .int .i64, .int .i64, .int .i64, .int .i64, .int .i64, .int .i64]), (152, [.int .i64, .int .i64, .int .i64, .int .i64, .int .i64, .int .i64, .int .i64]), (153, [.int .i64, .int .i64, .int .i64, .int .i64, .int .i64, .int .i64, .int .i64]), (168, [.int .i64, .int .i64, .int .i64, .int .i64, .int .i64, .int .i64, .int .i64]), (181, [.int .i64]), (182, [.int .i64]), (191, [.int .i64]), (192, [.int .i64])] [] true [] 9223372036854775808 F14 [(.one (.imm true 1 x0)), (.one (.imm true 1 x1))] [] = some ((T14 x0 x1).map (n14 x0 x1)) := by kernel_rfl
noncomputable def q14 : List SV → List Blk → Option ((SV × List Blk) × Bool)
  | [(.one (.imm true 1 c0)), (.one (.imm true 1 c1))], [] => some (n14 c0 c1 (g14 c0 c1), k14 c0 c1)
  | _, _ => none
theorem t14 (args : List SV) (hp : List Blk) (r : SV × List Blk) (h : q14 args hp = some (r, true)) : frzR R 14 args hp = some r := by
  unfold q14 at h
  split at h
  · rename_i c0 c1
    obtain ⟨hr, hk⟩ := Prod.mk.inj (Option.some.inj h)
    exact (frz_lo (by decide)).trans (R_fn at14 9223372036854775808 (fnP_c Q132_ok (loops_of (l := []) rfl trivial) (e14 c0 c1) hr hk))
  · simp at h
noncomputable def Q14 : Qt := qcons 14 q14 Q132
theorem Q14_ok : QOk (frzR R) Q14 := qcons_ok t14 Q132_ok
end Go.Proofs.YtckjibiolfapiaaCode
