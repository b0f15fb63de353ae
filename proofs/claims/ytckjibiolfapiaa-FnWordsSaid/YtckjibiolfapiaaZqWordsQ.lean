/- What each function gives, and that it does. Printed. -/
import Derived.Test.YtckjibiolfapiaaZqTabWords
import Derived.Test.YtckjibiolfapiaaZmc
import Derived.KernelRfl
import Derived.Test.YtckjibiolfapiaaZqWordsR
set_option linter.unusedVariables false
set_option linter.unusedSimpArgs false
namespace Go.Proofs.YtckjibiolfapiaaWords
open Go Go.Zq
set_option maxRecDepth 100000
structure Gl1Cur where
  mk ::
  (fcode : List Row)
  (fat : Int)
  (fseed : Int)
def Gl1Cur.row (x : Gl1Cur) : Row := [.imm true 1 x.fcode, .lit (.int .i64 x.fat), .lit (.int .u64 x.fseed)]
def Gl1Cur.at (r : List Row) (j i : Nat) : Gl1Cur := ⟨rowsAt r j i, intAt r j (i + 1), intAt r j (i + 2)⟩
/-! (*spec.l1Cur).next -/
noncomputable def y217_0 (x0 : Gl1Cur) : Int := (bif (ltI x0.fat (lenI x0.fcode)) then (wrapK .i64 (intAt x0.fcode (Int.toNat x0.fat) 0)) else 0)
noncomputable def y217_1 (x0 : Gl1Cur) : Int := (addK .u64 (addK .u64 (mulK .u64 x0.fseed 6364136223846793005) (wrapK .u64 (y217_0 x0))) 1442695040888963407)
noncomputable def T217 (x0 : Gl1Cur) : Pt (Gl1Cur × Int) := (.ok true (.ok true (.ok true (.ok ((((inRow [.int .u8] x0.fcode x0.fat) && true) || (!(ltI x0.fat (lenI x0.fcode)))) && true) (.ok true (.ok true (.ok true (.br (leI (addI x0.fat 1) (lenI x0.fcode)) (.ok true (.ok true (.leaf ((Gl1Cur.mk x0.fcode (addI x0.fat 1) (y217_1 x0)), (y217_0 x0))))) (.ok true (.ok true (.leaf ((Gl1Cur.mk x0.fcode (addI x0.fat 1) (y217_1 x0)), (wrapK .i64 (andK .u64 (shrK .u64 (y217_1 x0) 40) 255))))))))))))))
noncomputable def g217 (x0 : Gl1Cur) : Gl1Cur × Int := hid (T217 x0).val
noncomputable def k217 (x0 : Gl1Cur) : Bool := hid (T217 x0).okv
noncomputable def n217 (x0 : Gl1Cur) (r : Gl1Cur × Int) : SV × List Blk := ((.one (.lit (.int .i64 r.2))), [.box [.imm true 1 r.1.fcode, .lit (.int .i64 r.1.fat), .lit (.int .u64 r.1.fseed)]])
theorem e217 (x0 : Gl1Cur) : fnP qnil [(7, [.int .i64]), (11, [.imm 1]), (17, [.imm 1]), (21, [.int .i64]), (22, [.int .u8]), (23, [.int .u8]), (28, [.int .i64]), (36, [.int .u64]), (47, [.int .i64]), (51, [.imm 1]), (58, [.int .u64])] [] true [] 9223372036854775808 F217 [(.one (.ptr 0 0 0))] [.box [.imm true 1 x0.fcode, .lit (.int .i64 x0.fat), .lit (.int .u64 x0.fseed)]] = some ((T217 x0).map (n217 x0)) := by kernel_rfl
noncomputable def q217 : List SV → List Blk → Option ((SV × List Blk) × Bool)
  | [(.one (.ptr 0 0 0))], [.box [.imm true 1 c0, .lit (.int .i64 c1), .lit (.int .u64 c2)]] => some (n217 (Gl1Cur.mk c0 c1 c2) (g217 (Gl1Cur.mk c0 c1 c2)), k217 (Gl1Cur.mk c0 c1 c2))
  | _, _ => none
theorem t217 (args : List SV) (hp : List Blk) (r : SV × List Blk) (h : q217 args hp = some (r, true)) : frzR R 217 args hp = some r := by
  unfold q217 at h
  split at h
  · rename_i c0 c1 c2
    obtain ⟨hr, hk⟩ := Prod.mk.inj (Option.some.inj h)
    exact (frz_lo (by decide)).trans (R_fn at217 9223372036854775808 (fnP_c qnil_ok (loops_of (l := []) rfl trivial) (e217 (Gl1Cur.mk c0 c1 c2)) hr hk))
  · simp at h
noncomputable def Q217 : Qt := qcons 217 q217 qnil
theorem Q217_ok : QOk (frzR R) Q217 := qcons_ok t217 qnil_ok
/-! (*spec.l1Cur).pick -/
noncomputable def T141 (x1 : Int) (x0 : Gl1Cur) : Pt (Gl1Cur × Int) := (.ok true (.ok true (.br (leI x1 1) (.ok true (.ok true (.leaf (x0, 0)))) (.ok ((k217 x0) && true) (.ok true (.br (gtI x1 200) (.ok ((k217 (g217 x0).1) && true) (.ok ((neI x1 0) && true) (.ok true (.leaf ((g217 (g217 x0).1).1, (remI (addI (mulI (g217 x0).2 256) (g217 (g217 x0).1).2) x1)))))) (.ok ((neI x1 0) && true) (.ok true (.leaf ((g217 x0).1, (remI (g217 x0).2 x1)))))))))))
noncomputable def g141 (x1 : Int) (x0 : Gl1Cur) : Gl1Cur × Int := hid (T141 x1 x0).val
noncomputable def k141 (x1 : Int) (x0 : Gl1Cur) : Bool := hid (T141 x1 x0).okv
noncomputable def n141 (x1 : Int) (x0 : Gl1Cur) (r : Gl1Cur × Int) : SV × List Blk := ((.one (.lit (.int .i64 r.2))), [.box [.imm true 1 r.1.fcode, .lit (.int .i64 r.1.fat), .lit (.int .u64 r.1.fseed)]])
theorem e141 (x1 : Int) (x0 : Gl1Cur) : fnP Q217 [] [] true [] 9223372036854775808 F141 [(.one (.ptr 0 0 0)), (.one (.lit (.int .i64 x1)))] [.box [.imm true 1 x0.fcode, .lit (.int .i64 x0.fat), .lit (.int .u64 x0.fseed)]] = some ((T141 x1 x0).map (n141 x1 x0)) := by kernel_rfl
noncomputable def q141 : List SV → List Blk → Option ((SV × List Blk) × Bool)
  | [(.one (.ptr 0 0 0)), (.one (.lit (.int .i64 c0)))], [.box [.imm true 1 c1, .lit (.int .i64 c2), .lit (.int .u64 c3)]] => some (n141 c0 (Gl1Cur.mk c1 c2 c3) (g141 c0 (Gl1Cur.mk c1 c2 c3)), k141 c0 (Gl1Cur.mk c1 c2 c3))
  | _, _ => none
theorem t141 (args : List SV) (hp : List Blk) (r : SV × List Blk) (h : q141 args hp = some (r, true)) : frzR R 141 args hp = some r := by
  unfold q141 at h
  split at h
  · rename_i c0 c1 c2 c3
    obtain ⟨hr, hk⟩ := Prod.mk.inj (Option.some.inj h)
    exact (frz_lo (by decide)).trans (R_fn at141 9223372036854775808 (fnP_c Q217_ok (loops_of (l := []) rfl trivial) (e141 c0 (Gl1Cur.mk c1 c2 c3)) hr hk))
  · simp at h
noncomputable def Q141 : Qt := qcons 141 q141 Q217
theorem Q141_ok : QOk (frzR R) Q141 := qcons_ok t141 Q217_ok
/-! (*spec.l1Cur).among -/
noncomputable def T133 (x1 : List Row) (x0 : Gl1Cur) : Pt (Gl1Cur × Int) := (.ok true (.ok ((k141 (lenI x1) x0) && ((inRow [.int .i64] x1 (g141 (lenI x1) x0).2) && true)) (.ok true (.leaf ((g141 (lenI x1) x0).1, (intAt x1 (Int.toNat (g141 (lenI x1) x0).2) 0))))))
noncomputable def g133 (x1 : List Row) (x0 : Gl1Cur) : Gl1Cur × Int := hid (T133 x1 x0).val
noncomputable def k133 (x1 : List Row) (x0 : Gl1Cur) : Bool := hid (T133 x1 x0).okv
noncomputable def n133 (x1 : List Row) (x0 : Gl1Cur) (r : Gl1Cur × Int) : SV × List Blk := ((.one (.lit (.int .i64 r.2))), [.box [.imm true 1 r.1.fcode, .lit (.int .i64 r.1.fat), .lit (.int .u64 r.1.fseed)]])
theorem e133 (x1 : List Row) (x0 : Gl1Cur) : fnP Q141 [(10, [.int .i64]), (11, [.int .i64])] [] true [] 9223372036854775808 F133 [(.one (.ptr 0 0 0)), (.one (.imm false 1 x1))] [.box [.imm true 1 x0.fcode, .lit (.int .i64 x0.fat), .lit (.int .u64 x0.fseed)]] = some ((T133 x1 x0).map (n133 x1 x0)) := by kernel_rfl
noncomputable def q133 : List SV → List Blk → Option ((SV × List Blk) × Bool)
  | [(.one (.ptr 0 0 0)), (.one (.imm false 1 c0))], [.box [.imm true 1 c1, .lit (.int .i64 c2), .lit (.int .u64 c3)]] => some (n133 c0 (Gl1Cur.mk c1 c2 c3) (g133 c0 (Gl1Cur.mk c1 c2 c3)), k133 c0 (Gl1Cur.mk c1 c2 c3))
  | _, _ => none
theorem t133 (args : List SV) (hp : List Blk) (r : SV × List Blk) (h : q133 args hp = some (r, true)) : frzR R 133 args hp = some r := by
  unfold q133 at h
  split at h
  · rename_i c0 c1 c2 c3
    obtain ⟨hr, hk⟩ := Prod.mk.inj (Option.some.inj h)
    exact (frz_lo (by decide)).trans (R_fn at133 9223372036854775808 (fnP_c Q141_ok (loops_of (l := []) rfl trivial) (e133 c0 (Gl1Cur.mk c1 c2 c3)) hr hk))
  · simp at h
noncomputable def Q133 : Qt := qcons 133 q133 Q141
theorem Q133_ok : QOk (frzR R) Q133 := qcons_ok t133 Q141_ok
/-! (*spec.l1Cur).size -/
noncomputable def y148_0 (x0 : Gl1Cur) : Gl1Cur × Int := (g133 [(rowI 1), (rowI 2), (rowI 2), (rowI 1), (rowI 1), (rowI 2), (rowI 2), (rowI 2), (rowI 0), (rowI 3)] x0)
noncomputable def T148 (x0 : Gl1Cur) : Pt (Gl1Cur × Int) := (.ok true (.ok ((k133 [(rowI 1), (rowI 2), (rowI 2), (rowI 1), (rowI 1), (rowI 2), (rowI 2), (rowI 2), (rowI 0), (rowI 3)] x0) && true) (.ok true (.leaf ((y148_0 x0).1, (y148_0 x0).2)))))
noncomputable def g148 (x0 : Gl1Cur) : Gl1Cur × Int := hid (T148 x0).val
noncomputable def k148 (x0 : Gl1Cur) : Bool := hid (T148 x0).okv
noncomputable def n148 (x0 : Gl1Cur) (r : Gl1Cur × Int) : SV × List Blk := ((.one (.lit (.int .i64 r.2))), [.box [.imm true 1 r.1.fcode, .lit (.int .i64 r.1.fat), .lit (.int .u64 r.1.fseed)]])
theorem e148 (x0 : Gl1Cur) : fnP Q133 [] [] true [] 9223372036854775808 F148 [(.one (.ptr 0 0 0))] [.box [.imm true 1 x0.fcode, .lit (.int .i64 x0.fat), .lit (.int .u64 x0.fseed)]] = some ((T148 x0).map (n148 x0)) := by kernel_rfl
noncomputable def q148 : List SV → List Blk → Option ((SV × List Blk) × Bool)
  | [(.one (.ptr 0 0 0))], [.box [.imm true 1 c0, .lit (.int .i64 c1), .lit (.int .u64 c2)]] => some (n148 (Gl1Cur.mk c0 c1 c2) (g148 (Gl1Cur.mk c0 c1 c2)), k148 (Gl1Cur.mk c0 c1 c2))
  | _, _ => none
theorem t148 (args : List SV) (hp : List Blk) (r : SV × List Blk) (h : q148 args hp = some (r, true)) : frzR R 148 args hp = some r := by
  unfold q148 at h
  split at h
  · rename_i c0 c1 c2
    obtain ⟨hr, hk⟩ := Prod.mk.inj (Option.some.inj h)
    exact (frz_lo (by decide)).trans (R_fn at148 9223372036854775808 (fnP_c Q133_ok (loops_of (l := []) rfl trivial) (e148 (Gl1Cur.mk c0 c1 c2)) hr hk))
  · simp at h
noncomputable def Q148 : Qt := qcons 148 q148 Q133
theorem Q148_ok : QOk (frzR R) Q148 := qcons_ok t148 Q133_ok
/-! (*spec.l1Cur).one -/
noncomputable def T167 (x1 : Int) (x0 : Gl1Cur) : Pt (Gl1Cur × Bool) := (.ok true (.ok ((k141 x1 x0) && true) (.ok true (.leaf ((g141 x1 x0).1, (eqI (g141 x1 x0).2 0))))))
noncomputable def g167 (x1 : Int) (x0 : Gl1Cur) : Gl1Cur × Bool := hid (T167 x1 x0).val
noncomputable def k167 (x1 : Int) (x0 : Gl1Cur) : Bool := hid (T167 x1 x0).okv
noncomputable def n167 (x1 : Int) (x0 : Gl1Cur) (r : Gl1Cur × Bool) : SV × List Blk := ((.one (.lit (.bool r.2))), [.box [.imm true 1 r.1.fcode, .lit (.int .i64 r.1.fat), .lit (.int .u64 r.1.fseed)]])
theorem e167 (x1 : Int) (x0 : Gl1Cur) : fnP Q148 [] [] true [] 9223372036854775808 F167 [(.one (.ptr 0 0 0)), (.one (.lit (.int .i64 x1)))] [.box [.imm true 1 x0.fcode, .lit (.int .i64 x0.fat), .lit (.int .u64 x0.fseed)]] = some ((T167 x1 x0).map (n167 x1 x0)) := by kernel_rfl
noncomputable def q167 : List SV → List Blk → Option ((SV × List Blk) × Bool)
  | [(.one (.ptr 0 0 0)), (.one (.lit (.int .i64 c0)))], [.box [.imm true 1 c1, .lit (.int .i64 c2), .lit (.int .u64 c3)]] => some (n167 c0 (Gl1Cur.mk c1 c2 c3) (g167 c0 (Gl1Cur.mk c1 c2 c3)), k167 c0 (Gl1Cur.mk c1 c2 c3))
  | _, _ => none
theorem t167 (args : List SV) (hp : List Blk) (r : SV × List Blk) (h : q167 args hp = some (r, true)) : frzR R 167 args hp = some r := by
  unfold q167 at h
  split at h
  · rename_i c0 c1 c2 c3
    obtain ⟨hr, hk⟩ := Prod.mk.inj (Option.some.inj h)
    exact (frz_lo (by decide)).trans (R_fn at167 9223372036854775808 (fnP_c Q148_ok (loops_of (l := []) rfl trivial) (e167 c0 (Gl1Cur.mk c1 c2 c3)) hr hk))
  · simp at h
noncomputable def Q167 : Qt := qcons 167 q167 Q148
theorem Q167_ok : QOk (frzR R) Q167 := qcons_ok t167 Q148_ok
/-! (*spec.l1Cur).value -/
noncomputable def y166_0 (x0 : Gl1Cur) : Gl1Cur × Int := (g133 [(rowI 0), (rowI 1), (rowI 127), (rowI 128), (rowI 255), (rowI 256), (rowI 32767), (rowI 32768), (rowI 65535), (rowI 65536), (rowI (-1))] (g167 2 x0).1)
noncomputable def y166_1 (x0 : Gl1Cur) : Gl1Cur × Int := (g141 2 (g141 256 (g167 2 x0).1).1)
noncomputable def T166 (x0 : Gl1Cur) : Pt (Gl1Cur × Int) := (.ok true (.ok ((k167 2 x0) && true) (.br (g167 2 x0).2 (.ok ((k133 [(rowI 0), (rowI 1), (rowI 127), (rowI 128), (rowI 255), (rowI 256), (rowI 32767), (rowI 32768), (rowI 65535), (rowI 65536), (rowI (-1))] (g167 2 x0).1) && true) (.ok true (.leaf ((y166_0 x0).1, (y166_0 x0).2)))) (.ok ((k141 256 (g167 2 x0).1) && ((k141 2 (g141 256 (g167 2 x0).1).1) && ((k141 256 (y166_1 x0).1) && true))) (.ok true (.leaf ((g141 256 (y166_1 x0).1).1, (addI (mulI (mulI (g141 256 (g167 2 x0).1).2 (y166_1 x0).2) 256) (g141 256 (y166_1 x0).1).2))))))))
noncomputable def g166 (x0 : Gl1Cur) : Gl1Cur × Int := hid (T166 x0).val
noncomputable def k166 (x0 : Gl1Cur) : Bool := hid (T166 x0).okv
noncomputable def n166 (x0 : Gl1Cur) (r : Gl1Cur × Int) : SV × List Blk := ((.one (.lit (.int .i64 r.2))), [.box [.imm true 1 r.1.fcode, .lit (.int .i64 r.1.fat), .lit (.int .u64 r.1.fseed)]])
theorem e166 (x0 : Gl1Cur) : fnP Q167 [] [] true [] 9223372036854775808 F166 [(.one (.ptr 0 0 0))] [.box [.imm true 1 x0.fcode, .lit (.int .i64 x0.fat), .lit (.int .u64 x0.fseed)]] = some ((T166 x0).map (n166 x0)) := by kernel_rfl
noncomputable def q166 : List SV → List Blk → Option ((SV × List Blk) × Bool)
  | [(.one (.ptr 0 0 0))], [.box [.imm true 1 c0, .lit (.int .i64 c1), .lit (.int .u64 c2)]] => some (n166 (Gl1Cur.mk c0 c1 c2) (g166 (Gl1Cur.mk c0 c1 c2)), k166 (Gl1Cur.mk c0 c1 c2))
  | _, _ => none
theorem t166 (args : List SV) (hp : List Blk) (r : SV × List Blk) (h : q166 args hp = some (r, true)) : frzR R 166 args hp = some r := by
  unfold q166 at h
  split at h
  · rename_i c0 c1 c2
    obtain ⟨hr, hk⟩ := Prod.mk.inj (Option.some.inj h)
    exact (frz_lo (by decide)).trans (R_fn at166 9223372036854775808 (fnP_c Q167_ok (loops_of (l := []) rfl trivial) (e166 (Gl1Cur.mk c0 c1 c2)) hr hk))
  · simp at h
noncomputable def Q166 : Qt := qcons 166 q166 Q167
theorem Q166_ok : QOk (frzR R) Q166 := qcons_ok t166 Q167_ok
/-! (*spec.l1Cur).fit -/
noncomputable def T149 (x1 : Int) (x0 : Gl1Cur) : Pt (Gl1Cur × Int) := (.ok true (.ok ((k166 x0) && true) (.ok ((((k167 20 (g166 x0).1) && true) || (!(eqI x1 1))) && true) (.ok true (.ok true (.ok true (.leaf ((Gl1Cur.mk (bif (eqI x1 1) then (g167 20 (g166 x0).1).1.fcode else (g166 x0).1.fcode) (bif (eqI x1 1) then (g167 20 (g166 x0).1).1.fat else (g166 x0).1.fat) (bif (eqI x1 1) then (g167 20 (g166 x0).1).1.fseed else (g166 x0).1.fseed)), (bif (bif (eqI x1 1) then (!(g167 20 (g166 x0).1).2) else false) then (andI (g166 x0).2 255) else (g166 x0).2)))))))))
noncomputable def g149 (x1 : Int) (x0 : Gl1Cur) : Gl1Cur × Int := hid (T149 x1 x0).val
noncomputable def k149 (x1 : Int) (x0 : Gl1Cur) : Bool := hid (T149 x1 x0).okv
noncomputable def n149 (x1 : Int) (x0 : Gl1Cur) (r : Gl1Cur × Int) : SV × List Blk := ((.one (.lit (.int .i64 r.2))), [.box [.imm true 1 r.1.fcode, .lit (.int .i64 r.1.fat), .lit (.int .u64 r.1.fseed)]])
theorem e149 (x1 : Int) (x0 : Gl1Cur) : fnP Q166 [] [] true [] 9223372036854775808 F149 [(.one (.ptr 0 0 0)), (.one (.lit (.int .i64 x1)))] [.box [.imm true 1 x0.fcode, .lit (.int .i64 x0.fat), .lit (.int .u64 x0.fseed)]] = some ((T149 x1 x0).map (n149 x1 x0)) := by kernel_rfl
noncomputable def q149 : List SV → List Blk → Option ((SV × List Blk) × Bool)
  | [(.one (.ptr 0 0 0)), (.one (.lit (.int .i64 c0)))], [.box [.imm true 1 c1, .lit (.int .i64 c2), .lit (.int .u64 c3)]] => some (n149 c0 (Gl1Cur.mk c1 c2 c3) (g149 c0 (Gl1Cur.mk c1 c2 c3)), k149 c0 (Gl1Cur.mk c1 c2 c3))
  | _, _ => none
theorem t149 (args : List SV) (hp : List Blk) (r : SV × List Blk) (h : q149 args hp = some (r, true)) : frzR R 149 args hp = some r := by
  unfold q149 at h
  split at h
  · rename_i c0 c1 c2 c3
    obtain ⟨hr, hk⟩ := Prod.mk.inj (Option.some.inj h)
    exact (frz_lo (by decide)).trans (R_fn at149 9223372036854775808 (fnP_c Q166_ok (loops_of (l := []) rfl trivial) (e149 c0 (Gl1Cur.mk c1 c2 c3)) hr hk))
  · simp at h
noncomputable def Q149 : Qt := qcons 149 q149 Q166
theorem Q149_ok : QOk (frzR R) Q149 := qcons_ok t149 Q166_ok
/-! spec.DrawAddMany -/
structure V87_0 where
  mk ::
  (b0 : Gl1Cur)
  (s6 : Int)
  (s7 : List Row)
  (s8 : List Row)
  (s9 : Int)
noncomputable def y87_0_l_0 (v : V87_0) : Nat := (List.length (v.s7 ++ [(rowI (g149 v.s6 v.b0).2)]))
noncomputable def y87_0_l_1 (v : V87_0) : Gl1Cur × Int := (g149 v.s6 (g149 v.s6 v.b0).1)
noncomputable def y87_0_l_2 (v : V87_0) : Nat := (List.length (v.s8 ++ [(rowI (y87_0_l_1 v).2)]))
noncomputable def y87_0_l_3 (v : V87_0) : Bool := ((eqN (y87_0_l_0 v) (y87_0_l_0 v)) && ((eqN (y87_0_l_2 v) (y87_0_l_2 v)) && true))
noncomputable def N87_0 (v : V87_0) : Pt (Option V87_0) := (.ok true (.br (gtI v.s9 0) (.ok ((k149 v.s6 v.b0) && (((eqN (List.length v.s7) (List.length v.s7)) && ((eqN (0 + (List.length v.s7)) (List.length v.s7)) && ((leN (mulN ((List.length v.s7) + 1) 8) 140737488355328) && (leN ((List.length v.s7) + 1) 140737488355328)))) && true)) (.ok ((k149 v.s6 (g149 v.s6 v.b0).1) && (((eqN (List.length v.s8) (List.length v.s8)) && ((eqN (0 + (List.length v.s8)) (List.length v.s8)) && ((leN (mulN ((List.length v.s8) + 1) 8) 140737488355328) && (leN ((List.length v.s8) + 1) 140737488355328)))) && true)) (.ok true (.ok ((y87_0_l_3 v) && (y87_0_l_3 v)) (.leaf (some (V87_0.mk (y87_0_l_1 v).1 v.s6 (v.s7 ++ [(rowI (g149 v.s6 v.b0).2)]) (v.s8 ++ [(rowI (y87_0_l_1 v).2)]) (subI v.s9 1)))))))) (.leaf none)))
noncomputable def s87_0 (v : V87_0) : St := ⟨[(5, (.one (.ptr 0 0 0))), (6, (.one (.lit (.int .i64 v.s6)))), (7, (.one (.sl 1 0 (List.length v.s7)))), (8, (.one (.sl 2 0 (List.length v.s8)))), (9, (.one (.lit (.int .i64 v.s9))))], [.box [.imm true 1 v.b0.fcode, .lit (.int .i64 v.b0.fat), .lit (.int .u64 v.b0.fseed)], .lst 1 v.s7, .lst 1 v.s8]⟩
def u87_0 : St → Option (V87_0 × Bool)
  | ⟨[(5, (.one (.ptr 0 0 0))), (6, (.one (.lit (.int .i64 c3)))), (7, (.one (.sl 1 0 l1))), (8, (.one (.sl 2 0 l2))), (9, (.one (.lit (.int .i64 c4))))], [.box [.imm true 1 c0, .lit (.int .i64 c1), .lit (.int .u64 c2)], .lst 1 c_1, .lst 1 c_2]⟩ => some ((V87_0.mk (Gl1Cur.mk c0 c1 c2) c3 c_1 c_2 c4), eqN l1 (List.length c_1) && (eqN l2 (List.length c_2) && (true)))
  | _ => none
theorem hN87_0 (v : V87_0) : ((evp Q149 [] [] true [] 0 9223372036854775808 F87b0 (s87_0 v)).bind (stpT true false 0 [5, 6, 7, 8, 9])) = some ((N87_0 v).map (Option.map s87_0)) := by kernel_rfl
theorem hu87_0 (σ : St) (v : V87_0) (h : u87_0 σ = some (v, true)) : σ = s87_0 v := by
  unfold u87_0 at h
  split at h
  · obtain ⟨hr, hk⟩ := Prod.mk.inj (Option.some.inj h)
    obtain ⟨d0, hk0⟩ := and_t hk
    obtain ⟨d1, hk1⟩ := and_t hk0
    obtain rfl := of_decide_eq_true d0
    obtain rfl := of_decide_eq_true d1
    rw [← hr]
    rfl
  · simp at h
theorem lt87_0 : TellsP (lqP true false 0 [5, 6, 7, 8, 9] (evp Q149 [] [] true [] 0 9223372036854775808 F87b0) u87_0 s87_0 N87_0 9223372036854775808) (evc R 0 9223372036854775808 (.loop [5, 6, 7, 8, 9] F87b0)) := lqP_tells (evp_tells Q149_ok (loops_of (l := []) (by kernel_rfl) trivial)) hu87_0 hN87_0
noncomputable def lq87_0 : Lp := (23, lqP true false 0 [5, 6, 7, 8, 9] (evp Q149 [] [] true [] 0 9223372036854775808 F87b0) u87_0 s87_0 N87_0 9223372036854775808) :: []
noncomputable def w87_0 (v : V87_0) : V87_0 := (hid (loopV N87_0 9223372036854775808 v)).getD v
noncomputable def i87_0 (v : V87_0) : Bool := (hid (loopV N87_0 9223372036854775808 v)).isSome
noncomputable def y87_0 (x0 : List Row) : Gl1Cur × Int := (g148 (Gl1Cur.mk x0 0 0))
noncomputable def y87_1 (x0 : List Row) : Gl1Cur × Bool := (g167 20 (g141 3 (y87_0 x0).1).1)
noncomputable def y87_2 (x0 : List Row) : V87_0 := (w87_0 (V87_0.mk (g141 2 (y87_1 x0).1).1 (y87_0 x0).2 [] [] (addI 8 (g141 2 (y87_1 x0).1).2)))
noncomputable def y87_3 (x0 : List Row) : Bool := ((eqN (List.length (y87_2 x0).s7) (List.length (y87_2 x0).s7)) && ((eqN (List.length (y87_2 x0).s8) (List.length (y87_2 x0).s8)) && true))
noncomputable def y87_4 (x0 : List Row) : V87_0 := (w87_0 (V87_0.mk (y87_1 x0).1 (y87_0 x0).2 [] [] (addI 1 (g141 3 (y87_0 x0).1).2)))
noncomputable def y87_5 (x0 : List Row) : Bool := ((eqN (List.length (y87_4 x0).s7) (List.length (y87_4 x0).s7)) && ((eqN (List.length (y87_4 x0).s8) (List.length (y87_4 x0).s8)) && true))
noncomputable def T87 (x0 : List Row) : Pt (Int × List Row × List Row) := (.ok true (.ok true (.ok ((k148 (Gl1Cur.mk x0 0 0)) && true) (.ok true (.ok ((k141 3 (y87_0 x0).1) && true) (.ok ((k167 20 (g141 3 (y87_0 x0).1).1) && true) (.br (y87_1 x0).2 (.ok ((k141 2 (y87_1 x0).1) && true) (.ok true (.ok true (.ok (i87_0 (V87_0.mk (g141 2 (y87_1 x0).1).1 (y87_0 x0).2 [] [] (addI 8 (g141 2 (y87_1 x0).1).2))) (.ok true (.ok ((y87_3 x0) && (y87_3 x0)) (.ok (y87_3 x0) (.leaf ((y87_2 x0).s6, (y87_2 x0).s7, (y87_2 x0).s8))))))))) (.ok true (.ok true (.ok (i87_0 (V87_0.mk (y87_1 x0).1 (y87_0 x0).2 [] [] (addI 1 (g141 3 (y87_0 x0).1).2))) (.ok true (.ok ((y87_5 x0) && (y87_5 x0)) (.ok (y87_5 x0) (.leaf ((y87_4 x0).s6, (y87_4 x0).s7, (y87_4 x0).s8)))))))))))))))
noncomputable def g87 (x0 : List Row) : Int × List Row × List Row := hid (T87 x0).val
noncomputable def k87 (x0 : List Row) : Bool := hid (T87 x0).okv
noncomputable def n87 (x0 : List Row) (r : Int × List Row × List Row) : SV × List Blk := ((.tup [(.one (.lit (.int .i64 r.1))), (.one (.imm true 1 r.2.1)), (.one (.imm true 1 r.2.2))]), [])
theorem e87 (x0 : List Row) : fnZ Q149 [] [] true lq87_0 9223372036854775808 F87 [(.one (.imm true 1 x0))] = some ((T87 x0).map (n87 x0)) := by kernel_rfl
noncomputable def q87 : List SV → List Blk → Option ((SV × List Blk) × Bool)
  | [(.one (.imm true 1 c0))], [] => some (n87 c0 (g87 c0), k87 c0)
  | _, _ => none
theorem hL87 : Loops (fun live x => TellsP (lpAt lq87_0 (tagC x)) (evc R 0 9223372036854775808 (.loop live x))) F87.body := (loops_of (l := [([5, 6, 7, 8, 9], F87b0)]) (by kernel_rfl) ⟨fun σ σr t h ho hl => lt87_0 σ σr t h ho hl, trivial⟩)
theorem t87 (args : List SV) (hp : List Blk) (r : SV × List Blk) (h : q87 args hp = some (r, true)) : frzR R 100087 args hp = some r := by
  unfold q87 at h
  split at h
  · rename_i c0
    obtain ⟨hr, hk⟩ := Prod.mk.inj (Option.some.inj h)
    exact fnZ_c (f := 87) Q149_ok hL87 (e87 c0) hr hk (fun r h => R_fn at87 9223372036854775808 h)
  · simp at h
noncomputable def Q87 : Qt := qcons 100087 q87 Q149
theorem Q87_ok : QOk (frzR R) Q87 := qcons_ok t87 Q149_ok
/-! impl.within -/
noncomputable def T142 (x0 : Int) (x1 : Int) (x2 : Int) : Pt (Bool) := (.ok true (.ok true (.ok true (.ok true (.leaf (bif (geI x0 x1) then (leI x0 x2) else false))))))
noncomputable def g142 (x0 : Int) (x1 : Int) (x2 : Int) : Bool := hid (T142 x0 x1 x2).val
noncomputable def k142 (x0 : Int) (x1 : Int) (x2 : Int) : Bool := hid (T142 x0 x1 x2).okv
noncomputable def n142 (x0 : Int) (x1 : Int) (x2 : Int) (r : Bool) : SV × List Blk := ((.one (.lit (.bool r))), [])
theorem e142 (x0 : Int) (x1 : Int) (x2 : Int) : fnZ Q87 [] [] true [] 9223372036854775808 F142 [(.one (.lit (.int .i64 x0))), (.one (.lit (.int .i64 x1))), (.one (.lit (.int .i64 x2)))] = some ((T142 x0 x1 x2).map (n142 x0 x1 x2)) := by kernel_rfl
noncomputable def q142 : List SV → List Blk → Option ((SV × List Blk) × Bool)
  | [(.one (.lit (.int .i64 c0))), (.one (.lit (.int .i64 c1))), (.one (.lit (.int .i64 c2)))], [] => some (n142 c0 c1 c2 (g142 c0 c1 c2), k142 c0 c1 c2)
  | _, _ => none
theorem t142 (args : List SV) (hp : List Blk) (r : SV × List Blk) (h : q142 args hp = some (r, true)) : frzR R 100142 args hp = some r := by
  unfold q142 at h
  split at h
  · rename_i c0 c1 c2
    obtain ⟨hr, hk⟩ := Prod.mk.inj (Option.some.inj h)
    exact fnZ_c (f := 142) Q87_ok (loops_of (l := []) rfl trivial) (e142 c0 c1 c2) hr hk (fun r h => R_fn at142 9223372036854775808 h)
  · simp at h
noncomputable def Q142 : Qt := qcons 100142 q142 Q87
theorem Q142_ok : QOk (frzR R) Q142 := qcons_ok t142 Q87_ok
/-! impl.isBit -/
noncomputable def T150 (x0 : Int) : Pt (Bool) := (.ok true (.ok ((k142 x0 0 1) && true) (.ok true (.ok true (.leaf (g142 x0 0 1))))))
noncomputable def g150 (x0 : Int) : Bool := hid (T150 x0).val
noncomputable def k150 (x0 : Int) : Bool := hid (T150 x0).okv
noncomputable def n150 (x0 : Int) (r : Bool) : SV × List Blk := ((.one (.lit (.bool r))), [])
theorem e150 (x0 : Int) : fnZ Q142 [] [] true [] 9223372036854775808 F150 [(.one (.lit (.int .i64 x0)))] = some ((T150 x0).map (n150 x0)) := by kernel_rfl
noncomputable def q150 : List SV → List Blk → Option ((SV × List Blk) × Bool)
  | [(.one (.lit (.int .i64 c0)))], [] => some (n150 c0 (g150 c0), k150 c0)
  | _, _ => none
theorem t150 (args : List SV) (hp : List Blk) (r : SV × List Blk) (h : q150 args hp = some (r, true)) : frzR R 100150 args hp = some r := by
  unfold q150 at h
  split at h
  · rename_i c0
    obtain ⟨hr, hk⟩ := Prod.mk.inj (Option.some.inj h)
    exact fnZ_c (f := 150) Q142_ok (loops_of (l := []) rfl trivial) (e150 c0) hr hk (fun r h => R_fn at150 9223372036854775808 h)
  · simp at h
noncomputable def Q150 : Qt := qcons 100150 q150 Q142
theorem Q150_ok : QOk (frzR R) Q150 := qcons_ok t150 Q142_ok
/-! impl.isSize -/
noncomputable def T198 (x0 : Int) : Pt (Bool) := (.ok true (.ok true (.ok true (.ok true (.leaf (bif (eqI x0 1) then true else (eqI x0 2)))))))
noncomputable def g198 (x0 : Int) : Bool := hid (T198 x0).val
noncomputable def k198 (x0 : Int) : Bool := hid (T198 x0).okv
noncomputable def n198 (x0 : Int) (r : Bool) : SV × List Blk := ((.one (.lit (.bool r))), [])
theorem e198 (x0 : Int) : fnZ Q150 [] [] true [] 9223372036854775808 F198 [(.one (.lit (.int .i64 x0)))] = some ((T198 x0).map (n198 x0)) := by kernel_rfl
noncomputable def q198 : List SV → List Blk → Option ((SV × List Blk) × Bool)
  | [(.one (.lit (.int .i64 c0)))], [] => some (n198 c0 (g198 c0), k198 c0)
  | _, _ => none
theorem t198 (args : List SV) (hp : List Blk) (r : SV × List Blk) (h : q198 args hp = some (r, true)) : frzR R 100198 args hp = some r := by
  unfold q198 at h
  split at h
  · rename_i c0
    obtain ⟨hr, hk⟩ := Prod.mk.inj (Option.some.inj h)
    exact fnZ_c (f := 198) Q150_ok (loops_of (l := []) rfl trivial) (e198 c0) hr hk (fun r h => R_fn at198 9223372036854775808 h)
  · simp at h
noncomputable def Q198 : Qt := qcons 100198 q198 Q150
theorem Q198_ok : QOk (frzR R) Q198 := qcons_ok t198 Q150_ok
/-! impl.limitOf -/
noncomputable def T218 (x0 : Int) : Pt (Int) := (.ok true (.ok ((leI 0 (mulI 8 x0)) && true) (.ok true (.ok true (.leaf (shlI 1 (mulI 8 x0)))))))
noncomputable def g218 (x0 : Int) : Int := hid (T218 x0).val
noncomputable def k218 (x0 : Int) : Bool := hid (T218 x0).okv
noncomputable def n218 (x0 : Int) (r : Int) : SV × List Blk := ((.one (.lit (.int .i64 r))), [])
theorem e218 (x0 : Int) : fnZ Q198 [] [] true [] 9223372036854775808 F218 [(.one (.lit (.int .i64 x0)))] = some ((T218 x0).map (n218 x0)) := by kernel_rfl
noncomputable def q218 : List SV → List Blk → Option ((SV × List Blk) × Bool)
  | [(.one (.lit (.int .i64 c0)))], [] => some (n218 c0 (g218 c0), k218 c0)
  | _, _ => none
theorem t218 (args : List SV) (hp : List Blk) (r : SV × List Blk) (h : q218 args hp = some (r, true)) : frzR R 100218 args hp = some r := by
  unfold q218 at h
  split at h
  · rename_i c0
    obtain ⟨hr, hk⟩ := Prod.mk.inj (Option.some.inj h)
    exact fnZ_c (f := 218) Q198_ok (loops_of (l := []) rfl trivial) (e218 c0) hr hk (fun r h => R_fn at218 9223372036854775808 h)
  · simp at h
noncomputable def Q218 : Qt := qcons 100218 q218 Q198
theorem Q218_ok : QOk (frzR R) Q218 := qcons_ok t218 Q198_ok
/-! impl.isValue -/
noncomputable def T151 (x0 : Int) (x1 : Int) : Pt (Bool) := (.ok true (.ok ((k198 x0) && ((((k218 x0) && ((k142 x1 0 (subI (g218 x0) 1)) && true)) || (!(g198 x0))) && true)) (.ok true (.ok true (.leaf (bif (g198 x0) then (g142 x1 0 (subI (g218 x0) 1)) else false))))))
noncomputable def g151 (x0 : Int) (x1 : Int) : Bool := hid (T151 x0 x1).val
noncomputable def k151 (x0 : Int) (x1 : Int) : Bool := hid (T151 x0 x1).okv
noncomputable def n151 (x0 : Int) (x1 : Int) (r : Bool) : SV × List Blk := ((.one (.lit (.bool r))), [])
theorem e151 (x0 : Int) (x1 : Int) : fnZ Q218 [] [] true [] 9223372036854775808 F151 [(.one (.lit (.int .i64 x0))), (.one (.lit (.int .i64 x1)))] = some ((T151 x0 x1).map (n151 x0 x1)) := by kernel_rfl
noncomputable def q151 : List SV → List Blk → Option ((SV × List Blk) × Bool)
  | [(.one (.lit (.int .i64 c0))), (.one (.lit (.int .i64 c1)))], [] => some (n151 c0 c1 (g151 c0 c1), k151 c0 c1)
  | _, _ => none
theorem t151 (args : List SV) (hp : List Blk) (r : SV × List Blk) (h : q151 args hp = some (r, true)) : frzR R 100151 args hp = some r := by
  unfold q151 at h
  split at h
  · rename_i c0 c1
    obtain ⟨hr, hk⟩ := Prod.mk.inj (Option.some.inj h)
    exact fnZ_c (f := 151) Q218_ok (loops_of (l := []) rfl trivial) (e151 c0 c1) hr hk (fun r h => R_fn at151 9223372036854775808 h)
  · simp at h
noncomputable def Q151 : Qt := qcons 100151 q151 Q218
theorem Q151_ok : QOk (frzR R) Q151 := qcons_ok t151 Q218_ok
/-! impl.signedOf -/
noncomputable def T157 (x0 : Int) (x1 : Int) : Pt (Int) := (.ok true (.ok ((k218 x0) && true) (.br (geI x1 (quoI (g218 x0) 2)) (.ok ((k218 x0) && true) (.ok true (.ok true (.leaf (subI x1 (g218 x0)))))) (.ok true (.ok true (.ok true (.leaf x1)))))))
noncomputable def g157 (x0 : Int) (x1 : Int) : Int := hid (T157 x0 x1).val
noncomputable def k157 (x0 : Int) (x1 : Int) : Bool := hid (T157 x0 x1).okv
noncomputable def n157 (x0 : Int) (x1 : Int) (r : Int) : SV × List Blk := ((.one (.lit (.int .i64 r))), [])
theorem e157 (x0 : Int) (x1 : Int) : fnZ Q151 [] [] true [] 9223372036854775808 F157 [(.one (.lit (.int .i64 x0))), (.one (.lit (.int .i64 x1)))] = some ((T157 x0 x1).map (n157 x0 x1)) := by kernel_rfl
noncomputable def q157 : List SV → List Blk → Option ((SV × List Blk) × Bool)
  | [(.one (.lit (.int .i64 c0))), (.one (.lit (.int .i64 c1)))], [] => some (n157 c0 c1 (g157 c0 c1), k157 c0 c1)
  | _, _ => none
theorem t157 (args : List SV) (hp : List Blk) (r : SV × List Blk) (h : q157 args hp = some (r, true)) : frzR R 100157 args hp = some r := by
  unfold q157 at h
  split at h
  · rename_i c0 c1
    obtain ⟨hr, hk⟩ := Prod.mk.inj (Option.some.inj h)
    exact fnZ_c (f := 157) Q151_ok (loops_of (l := []) rfl trivial) (e157 c0 c1) hr hk (fun r h => R_fn at157 9223372036854775808 h)
  · simp at h
noncomputable def Q157 : Qt := qcons 100157 q157 Q151
theorem Q157_ok : QOk (frzR R) Q157 := qcons_ok t157 Q151_ok
/-! impl.flag -/
noncomputable def T224 (x0 : Bool) (x1 : Int) : Pt (Int) := (.ok true (.ok true (.br x0 (.ok true (.ok true (.ok true (.leaf x1)))) (.ok true (.ok true (.ok true (.leaf 0)))))))
noncomputable def g224 (x0 : Bool) (x1 : Int) : Int := hid (T224 x0 x1).val
noncomputable def k224 (x0 : Bool) (x1 : Int) : Bool := hid (T224 x0 x1).okv
noncomputable def n224 (x0 : Bool) (x1 : Int) (r : Int) : SV × List Blk := ((.one (.lit (.int .i64 r))), [])
theorem e224 (x0 : Bool) (x1 : Int) : fnZ Q157 [] [] true [] 9223372036854775808 F224 [(.one (.lit (.bool x0))), (.one (.lit (.int .i64 x1)))] = some ((T224 x0 x1).map (n224 x0 x1)) := by kernel_rfl
noncomputable def q224 : List SV → List Blk → Option ((SV × List Blk) × Bool)
  | [(.one (.lit (.bool c0))), (.one (.lit (.int .i64 c1)))], [] => some (n224 c0 c1 (g224 c0 c1), k224 c0 c1)
  | _, _ => none
theorem t224 (args : List SV) (hp : List Blk) (r : SV × List Blk) (h : q224 args hp = some (r, true)) : frzR R 100224 args hp = some r := by
  unfold q224 at h
  split at h
  · rename_i c0 c1
    obtain ⟨hr, hk⟩ := Prod.mk.inj (Option.some.inj h)
    exact fnZ_c (f := 224) Q157_ok (loops_of (l := []) rfl trivial) (e224 c0 c1) hr hk (fun r h => R_fn at224 9223372036854775808 h)
  · simp at h
noncomputable def Q224 : Qt := qcons 100224 q224 Q157
theorem Q224_ok : QOk (frzR R) Q224 := qcons_ok t224 Q157_ok
/-! impl.signs -/
noncomputable def T225 (x0 : Int) (x1 : Int) : Pt (Int) := (.ok true (.ok ((k224 (eqI x1 0) 4) && ((k218 x0) && ((k224 (geI x1 (quoI (g218 x0) 2)) 8) && true))) (.ok true (.ok true (.leaf (orI (g224 (eqI x1 0) 4) (g224 (geI x1 (quoI (g218 x0) 2)) 8)))))))
noncomputable def g225 (x0 : Int) (x1 : Int) : Int := hid (T225 x0 x1).val
noncomputable def k225 (x0 : Int) (x1 : Int) : Bool := hid (T225 x0 x1).okv
noncomputable def n225 (x0 : Int) (x1 : Int) (r : Int) : SV × List Blk := ((.one (.lit (.int .i64 r))), [])
theorem e225 (x0 : Int) (x1 : Int) : fnZ Q224 [] [] true [] 9223372036854775808 F225 [(.one (.lit (.int .i64 x0))), (.one (.lit (.int .i64 x1)))] = some ((T225 x0 x1).map (n225 x0 x1)) := by kernel_rfl
noncomputable def q225 : List SV → List Blk → Option ((SV × List Blk) × Bool)
  | [(.one (.lit (.int .i64 c0))), (.one (.lit (.int .i64 c1)))], [] => some (n225 c0 c1 (g225 c0 c1), k225 c0 c1)
  | _, _ => none
theorem t225 (args : List SV) (hp : List Blk) (r : SV × List Blk) (h : q225 args hp = some (r, true)) : frzR R 100225 args hp = some r := by
  unfold q225 at h
  split at h
  · rename_i c0 c1
    obtain ⟨hr, hk⟩ := Prod.mk.inj (Option.some.inj h)
    exact fnZ_c (f := 225) Q224_ok (loops_of (l := []) rfl trivial) (e225 c0 c1) hr hk (fun r h => R_fn at225 9223372036854775808 h)
  · simp at h
noncomputable def Q225 : Qt := qcons 100225 q225 Q224
theorem Q225_ok : QOk (frzR R) Q225 := qcons_ok t225 Q224_ok
/-! impl.reckoned -/
noncomputable def y219_0 (x0 : Int) (x1 : Int) (x2 : Int) : Bool := (neI x2 (g157 x0 (andI x1 (subI (g218 x0) 1))))
noncomputable def T219 (x0 : Int) (x1 : Int) (x2 : Int) : Pt (Int × Int) := (.ok true (.ok ((k218 x0) && true) (.ok ((k157 x0 (andI x1 (subI (g218 x0) 1))) && true) (.ok ((k224 (neI x1 (andI x1 (subI (g218 x0) 1))) 17) && ((k224 (y219_0 x0 x1 x2) 2) && ((k225 x0 (andI x1 (subI (g218 x0) 1))) && true))) (.ok true (.ok true (.leaf ((andI x1 (subI (g218 x0) 1)), (orI (orI (g224 (neI x1 (andI x1 (subI (g218 x0) 1))) 17) (g224 (y219_0 x0 x1 x2) 2)) (g225 x0 (andI x1 (subI (g218 x0) 1))))))))))))
noncomputable def g219 (x0 : Int) (x1 : Int) (x2 : Int) : Int × Int := hid (T219 x0 x1 x2).val
noncomputable def k219 (x0 : Int) (x1 : Int) (x2 : Int) : Bool := hid (T219 x0 x1 x2).okv
noncomputable def n219 (x0 : Int) (x1 : Int) (x2 : Int) (r : Int × Int) : SV × List Blk := ((.tup [(.one (.lit (.int .i64 r.1))), (.one (.lit (.int .i64 r.2)))]), [])
theorem e219 (x0 : Int) (x1 : Int) (x2 : Int) : fnZ Q225 [] [] true [] 9223372036854775808 F219 [(.one (.lit (.int .i64 x0))), (.one (.lit (.int .i64 x1))), (.one (.lit (.int .i64 x2)))] = some ((T219 x0 x1 x2).map (n219 x0 x1 x2)) := by kernel_rfl
noncomputable def q219 : List SV → List Blk → Option ((SV × List Blk) × Bool)
  | [(.one (.lit (.int .i64 c0))), (.one (.lit (.int .i64 c1))), (.one (.lit (.int .i64 c2)))], [] => some (n219 c0 c1 c2 (g219 c0 c1 c2), k219 c0 c1 c2)
  | _, _ => none
theorem t219 (args : List SV) (hp : List Blk) (r : SV × List Blk) (h : q219 args hp = some (r, true)) : frzR R 100219 args hp = some r := by
  unfold q219 at h
  split at h
  · rename_i c0 c1 c2
    obtain ⟨hr, hk⟩ := Prod.mk.inj (Option.some.inj h)
    exact fnZ_c (f := 219) Q225_ok (loops_of (l := []) rfl trivial) (e219 c0 c1 c2) hr hk (fun r h => R_fn at219 9223372036854775808 h)
  · simp at h
noncomputable def Q219 : Qt := qcons 100219 q219 Q225
theorem Q219_ok : QOk (frzR R) Q219 := qcons_ok t219 Q225_ok
/-! impl.addFlags -/
noncomputable def y152_0 (x0 : Int) (x1 : Int) (x2 : Int) (x3 : Int) : Int := (addI (addI (g157 x0 x2) (g157 x0 x3)) x1)
noncomputable def y152_1 (x0 : Int) (x1 : Int) (x2 : Int) (x3 : Int) : Int × Int := (g219 x0 (addI (addI x2 x3) x1) (y152_0 x0 x1 x2 x3))
noncomputable def T152 (x0 : Int) (x1 : Int) (x2 : Int) (x3 : Int) : Pt (Int × Int) := (.ok true (.ok ((k157 x0 x2) && ((k157 x0 x3) && ((k219 x0 (addI (addI x2 x3) x1) (y152_0 x0 x1 x2 x3)) && true))) (.ok true (.ok true (.leaf ((y152_1 x0 x1 x2 x3).1, (y152_1 x0 x1 x2 x3).2))))))
noncomputable def g152 (x0 : Int) (x1 : Int) (x2 : Int) (x3 : Int) : Int × Int := hid (T152 x0 x1 x2 x3).val
noncomputable def k152 (x0 : Int) (x1 : Int) (x2 : Int) (x3 : Int) : Bool := hid (T152 x0 x1 x2 x3).okv
noncomputable def n152 (x0 : Int) (x1 : Int) (x2 : Int) (x3 : Int) (r : Int × Int) : SV × List Blk := ((.tup [(.one (.lit (.int .i64 r.1))), (.one (.lit (.int .i64 r.2)))]), [])
theorem e152 (x0 : Int) (x1 : Int) (x2 : Int) (x3 : Int) : fnZ Q219 [] [] true [] 9223372036854775808 F152 [(.one (.lit (.int .i64 x0))), (.one (.lit (.int .i64 x1))), (.one (.lit (.int .i64 x2))), (.one (.lit (.int .i64 x3)))] = some ((T152 x0 x1 x2 x3).map (n152 x0 x1 x2 x3)) := by kernel_rfl
noncomputable def q152 : List SV → List Blk → Option ((SV × List Blk) × Bool)
  | [(.one (.lit (.int .i64 c0))), (.one (.lit (.int .i64 c1))), (.one (.lit (.int .i64 c2))), (.one (.lit (.int .i64 c3)))], [] => some (n152 c0 c1 c2 c3 (g152 c0 c1 c2 c3), k152 c0 c1 c2 c3)
  | _, _ => none
theorem t152 (args : List SV) (hp : List Blk) (r : SV × List Blk) (h : q152 args hp = some (r, true)) : frzR R 100152 args hp = some r := by
  unfold q152 at h
  split at h
  · rename_i c0 c1 c2 c3
    obtain ⟨hr, hk⟩ := Prod.mk.inj (Option.some.inj h)
    exact fnZ_c (f := 152) Q219_ok (loops_of (l := []) rfl trivial) (e152 c0 c1 c2 c3) hr hk (fun r h => R_fn at152 9223372036854775808 h)
  · simp at h
noncomputable def Q152 : Qt := qcons 100152 q152 Q219
theorem Q152_ok : QOk (frzR R) Q152 := qcons_ok t152 Q219_ok
/-! impl.AddFlags -/
noncomputable def y28_0 (x0 : Int) (x1 : Int) (x2 : Int) : Bool := (bif (!(g150 x1)) then true else (!(g151 x0 x2)))
noncomputable def T28 (x0 : Int) (x1 : Int) (x2 : Int) (x3 : Int) : Pt (Int × Int × Bool) := (.ok true (.ok ((k150 x1) && ((((k151 x0 x2) && true) || (!(g150 x1))) && ((((k151 x0 x3) && true) || (y28_0 x0 x1 x2)) && true))) (.br (bif (y28_0 x0 x1 x2) then true else (!(g151 x0 x3))) (.ok true (.ok true (.ok true (.leaf (0, 0, false))))) (.ok ((k152 x0 x1 x2 x3) && true) (.ok true (.ok true (.ok true (.leaf ((g152 x0 x1 x2 x3).1, (g152 x0 x1 x2 x3).2, true)))))))))
noncomputable def g28 (x0 : Int) (x1 : Int) (x2 : Int) (x3 : Int) : Int × Int × Bool := hid (T28 x0 x1 x2 x3).val
noncomputable def k28 (x0 : Int) (x1 : Int) (x2 : Int) (x3 : Int) : Bool := hid (T28 x0 x1 x2 x3).okv
noncomputable def n28 (x0 : Int) (x1 : Int) (x2 : Int) (x3 : Int) (r : Int × Int × Bool) : SV × List Blk := ((.tup [(.one (.lit (.int .i64 r.1))), (.one (.lit (.int .i64 r.2.1))), (.one (.lit (.bool r.2.2)))]), [])
theorem e28 (x0 : Int) (x1 : Int) (x2 : Int) (x3 : Int) : fnZ Q152 [] [] true [] 9223372036854775808 F28 [(.one (.lit (.int .i64 x0))), (.one (.lit (.int .i64 x1))), (.one (.lit (.int .i64 x2))), (.one (.lit (.int .i64 x3)))] = some ((T28 x0 x1 x2 x3).map (n28 x0 x1 x2 x3)) := by kernel_rfl
noncomputable def q28 : List SV → List Blk → Option ((SV × List Blk) × Bool)
  | [(.one (.lit (.int .i64 c0))), (.one (.lit (.int .i64 c1))), (.one (.lit (.int .i64 c2))), (.one (.lit (.int .i64 c3)))], [] => some (n28 c0 c1 c2 c3 (g28 c0 c1 c2 c3), k28 c0 c1 c2 c3)
  | _, _ => none
theorem t28 (args : List SV) (hp : List Blk) (r : SV × List Blk) (h : q28 args hp = some (r, true)) : frzR R 100028 args hp = some r := by
  unfold q28 at h
  split at h
  · rename_i c0 c1 c2 c3
    obtain ⟨hr, hk⟩ := Prod.mk.inj (Option.some.inj h)
    exact fnZ_c (f := 28) Q152_ok (loops_of (l := []) rfl trivial) (e28 c0 c1 c2 c3) hr hk (fun r h => R_fn at28 9223372036854775808 h)
  · simp at h
noncomputable def Q28 : Qt := qcons 100028 q28 Q152
theorem Q28_ok : QOk (frzR R) Q28 := qcons_ok t28 Q152_ok
/-! impl.AddMany -/
structure V88_0 where
  mk ::
  (s0 : Int)
  (s1 : List Row)
  (s2 : List Row)
  (s9 : List Row)
  (s10 : Int)
  (s11 : Int)
  (s29 : Int)
  (s30 : Int)
noncomputable def y88_0_l_0 (v : V88_0) : Int × Int × Bool := (g28 v.s0 (quoI v.s10 16) (intAt v.s1 (Int.toNat v.s30) 0) (intAt v.s2 (Int.toNat v.s30) 0))
noncomputable def y88_0_l_1 (v : V88_0) : Nat := (List.length (v.s9 ++ [(rowI (y88_0_l_0 v).1)]))
noncomputable def y88_0_l_2 (v : V88_0) : Bool := ((eqN (y88_0_l_1 v) (y88_0_l_1 v)) && true)
noncomputable def N88_0 (v : V88_0) : Pt (Option V88_0) := (.ok true (.br (ltI v.s30 v.s29) (.ok true (.ok ((inRow [.int .i64] v.s1 v.s30) && ((inRow [.int .i64] v.s2 v.s30) && ((k28 v.s0 (quoI v.s10 16) (intAt v.s1 (Int.toNat v.s30) 0) (intAt v.s2 (Int.toNat v.s30) 0)) && true))) (.ok true (.br (!(y88_0_l_0 v).2.2) (.ok true (.leaf none)) (.ok (((eqN (List.length v.s9) (List.length v.s9)) && ((eqN (0 + (List.length v.s9)) (List.length v.s9)) && ((leN (mulN ((List.length v.s9) + 1) 8) 140737488355328) && (leN ((List.length v.s9) + 1) 140737488355328)))) && true) (.ok true (.ok true (.ok true (.ok ((y88_0_l_2 v) && (y88_0_l_2 v)) (.leaf (some { v with s9 := (v.s9 ++ [(rowI (y88_0_l_0 v).1)]), s10 := (y88_0_l_0 v).2.1, s11 := (andI v.s11 (y88_0_l_0 v).2.1), s30 := (addI v.s30 1) }))))))))))) (.leaf none)))
noncomputable def s88_0 (v : V88_0) : St := ⟨[(0, (.one (.lit (.int .i64 v.s0)))), (1, (.one (.imm true 1 v.s1))), (2, (.one (.imm true 1 v.s2))), (9, (.one (.sl 0 0 (List.length v.s9)))), (10, (.one (.lit (.int .i64 v.s10)))), (11, (.one (.lit (.int .i64 v.s11)))), (29, (.one (.lit (.int .i64 v.s29)))), (30, (.one (.lit (.int .i64 v.s30))))], [.lst 1 v.s9]⟩
def u88_0 : St → Option (V88_0 × Bool)
  | ⟨[(0, (.one (.lit (.int .i64 c0)))), (1, (.one (.imm true 1 c1))), (2, (.one (.imm true 1 c2))), (9, (.one (.sl 0 0 l0))), (10, (.one (.lit (.int .i64 c3)))), (11, (.one (.lit (.int .i64 c4)))), (29, (.one (.lit (.int .i64 c5)))), (30, (.one (.lit (.int .i64 c6))))], [.lst 1 c_0]⟩ => some ((V88_0.mk c0 c1 c2 c_0 c3 c4 c5 c6), eqN l0 (List.length c_0) && (true))
  | _ => none
theorem hN88_0 (v : V88_0) : ((evp Q28 [(39, [.int .i64]), (40, [.int .i64]), (43, [.int .i64]), (44, [.int .i64])] [] true [] 0 9223372036854775808 F88b0 (s88_0 v)).bind (stpT true false 0 [0, 1, 2, 9, 10, 11, 29, 30])) = some ((N88_0 v).map (Option.map s88_0)) := by kernel_rfl
theorem hu88_0 (σ : St) (v : V88_0) (h : u88_0 σ = some (v, true)) : σ = s88_0 v := by
  unfold u88_0 at h
  split at h
  · obtain ⟨hr, hk⟩ := Prod.mk.inj (Option.some.inj h)
    obtain ⟨d0, hk0⟩ := and_t hk
    obtain rfl := of_decide_eq_true d0
    rw [← hr]
    rfl
  · simp at h
theorem lt88_0 : TellsP (lqP true false 0 [0, 1, 2, 9, 10, 11, 29, 30] (evp Q28 [(39, [.int .i64]), (40, [.int .i64]), (43, [.int .i64]), (44, [.int .i64])] [] true [] 0 9223372036854775808 F88b0) u88_0 s88_0 N88_0 9223372036854775808) (evc R 0 9223372036854775808 (.loop [0, 1, 2, 9, 10, 11, 29, 30] F88b0)) := lqP_tells (evp_tells Q28_ok (loops_of (l := []) (by kernel_rfl) trivial)) hu88_0 hN88_0
noncomputable def lq88_0 : Lp := (31, lqP true false 0 [0, 1, 2, 9, 10, 11, 29, 30] (evp Q28 [(39, [.int .i64]), (40, [.int .i64]), (43, [.int .i64]), (44, [.int .i64])] [] true [] 0 9223372036854775808 F88b0) u88_0 s88_0 N88_0 9223372036854775808) :: []
noncomputable def w88_0 (v : V88_0) : V88_0 := (hid (loopV N88_0 9223372036854775808 v)).getD v
noncomputable def i88_0 (v : V88_0) : Bool := (hid (loopV N88_0 9223372036854775808 v)).isSome
noncomputable def y88_0 (x0 : Int) (x1 : List Row) (x2 : List Row) : V88_0 := (w88_0 (V88_0.mk x0 x1 x2 [] 0 4 (lenI x1) 0))
noncomputable def y88_1 (x0 : Int) (x1 : List Row) (x2 : List Row) : Bool := ((eqN (List.length (y88_0 x0 x1 x2).s9) (List.length (y88_0 x0 x1 x2).s9)) && true)
noncomputable def T88 (x0 : Int) (x1 : List Row) (x2 : List Row) : Pt (List Row × Int × Bool) := (.ok true (.ok ((k142 (lenI x1) 1 8) && true) (.br (bif (!(g142 (lenI x1) 1 8)) then true else (neI (lenI x2) (lenI x1))) (.ok true (.ok true (.ok true (.leaf ([], 0, false))))) (.ok true (.ok true (.ok true (.ok true (.ok true (.ok (i88_0 (V88_0.mk x0 x1 x2 [] 0 4 (lenI x1) 0)) (.br (ltI (y88_0 x0 x1 x2).s30 (y88_0 x0 x1 x2).s29) (.ok true (.ok true (.leaf ([], 0, false)))) (.ok true (.ok ((y88_1 x0 x1 x2) && (y88_1 x0 x1 x2)) (.ok (y88_1 x0 x1 x2) (.leaf ((y88_0 x0 x1 x2).s9, (orI (andNotI (y88_0 x0 x1 x2).s10 4) (y88_0 x0 x1 x2).s11), true)))))))))))))))
noncomputable def g88 (x0 : Int) (x1 : List Row) (x2 : List Row) : List Row × Int × Bool := hid (T88 x0 x1 x2).val
noncomputable def k88 (x0 : Int) (x1 : List Row) (x2 : List Row) : Bool := hid (T88 x0 x1 x2).okv
noncomputable def n88 (x0 : Int) (x1 : List Row) (x2 : List Row) (r : List Row × Int × Bool) : SV × List Blk := ((.tup [(.one (.imm true 1 r.1)), (.one (.lit (.int .i64 r.2.1))), (.one (.lit (.bool r.2.2)))]), [])
theorem e88 (x0 : Int) (x1 : List Row) (x2 : List Row) : fnZ Q28 [(39, [.int .i64]), (40, [.int .i64]), (43, [.int .i64]), (44, [.int .i64])] [] true lq88_0 9223372036854775808 F88 [(.one (.lit (.int .i64 x0))), (.one (.imm true 1 x1)), (.one (.imm true 1 x2))] = some ((T88 x0 x1 x2).map (n88 x0 x1 x2)) := by kernel_rfl
noncomputable def q88 : List SV → List Blk → Option ((SV × List Blk) × Bool)
  | [(.one (.lit (.int .i64 c0))), (.one (.imm true 1 c1)), (.one (.imm true 1 c2))], [] => some (n88 c0 c1 c2 (g88 c0 c1 c2), k88 c0 c1 c2)
  | _, _ => none
theorem hL88 : Loops (fun live x => TellsP (lpAt lq88_0 (tagC x)) (evc R 0 9223372036854775808 (.loop live x))) F88.body := (loops_of (l := [([0, 1, 2, 9, 10, 11, 29, 30], F88b0)]) (by kernel_rfl) ⟨fun σ σr t h ho hl => lt88_0 σ σr t h ho hl, trivial⟩)
theorem t88 (args : List SV) (hp : List Blk) (r : SV × List Blk) (h : q88 args hp = some (r, true)) : frzR R 100088 args hp = some r := by
  unfold q88 at h
  split at h
  · rename_i c0 c1 c2
    obtain ⟨hr, hk⟩ := Prod.mk.inj (Option.some.inj h)
    exact fnZ_c (f := 88) Q28_ok hL88 (e88 c0 c1 c2) hr hk (fun r h => R_fn at88 9223372036854775808 h)
  · simp at h
noncomputable def Q88 : Qt := qcons 100088 q88 Q28
theorem Q88_ok : QOk (frzR R) Q88 := qcons_ok t88 Q28_ok
/-! spec.l1In -/
noncomputable def T144 (x0 : Int) (x1 : Int) (x2 : Int) : Pt (Bool) := (.ok true (.ok true (.ok true (.ok true (.leaf (bif (geI x0 x1) then (leI x0 x2) else false))))))
noncomputable def g144 (x0 : Int) (x1 : Int) (x2 : Int) : Bool := hid (T144 x0 x1 x2).val
noncomputable def k144 (x0 : Int) (x1 : Int) (x2 : Int) : Bool := hid (T144 x0 x1 x2).okv
noncomputable def n144 (x0 : Int) (x1 : Int) (x2 : Int) (r : Bool) : SV × List Blk := ((.one (.lit (.bool r))), [])
theorem e144 (x0 : Int) (x1 : Int) (x2 : Int) : fnZ Q88 [] [] true [] 9223372036854775808 F144 [(.one (.lit (.int .i64 x0))), (.one (.lit (.int .i64 x1))), (.one (.lit (.int .i64 x2)))] = some ((T144 x0 x1 x2).map (n144 x0 x1 x2)) := by kernel_rfl
noncomputable def q144 : List SV → List Blk → Option ((SV × List Blk) × Bool)
  | [(.one (.lit (.int .i64 c0))), (.one (.lit (.int .i64 c1))), (.one (.lit (.int .i64 c2)))], [] => some (n144 c0 c1 c2 (g144 c0 c1 c2), k144 c0 c1 c2)
  | _, _ => none
theorem t144 (args : List SV) (hp : List Blk) (r : SV × List Blk) (h : q144 args hp = some (r, true)) : frzR R 100144 args hp = some r := by
  unfold q144 at h
  split at h
  · rename_i c0 c1 c2
    obtain ⟨hr, hk⟩ := Prod.mk.inj (Option.some.inj h)
    exact fnZ_c (f := 144) Q88_ok (loops_of (l := []) rfl trivial) (e144 c0 c1 c2) hr hk (fun r h => R_fn at144 9223372036854775808 h)
  · simp at h
noncomputable def Q144 : Qt := qcons 100144 q144 Q88
theorem Q144_ok : QOk (frzR R) Q144 := qcons_ok t144 Q88_ok
/-! spec.l1Size -/
noncomputable def T201 (x0 : Int) : Pt (Bool) := (.ok true (.ok true (.ok true (.ok true (.leaf (bif (eqI x0 1) then true else (eqI x0 2)))))))
noncomputable def g201 (x0 : Int) : Bool := hid (T201 x0).val
noncomputable def k201 (x0 : Int) : Bool := hid (T201 x0).okv
noncomputable def n201 (x0 : Int) (r : Bool) : SV × List Blk := ((.one (.lit (.bool r))), [])
theorem e201 (x0 : Int) : fnZ Q144 [] [] true [] 9223372036854775808 F201 [(.one (.lit (.int .i64 x0)))] = some ((T201 x0).map (n201 x0)) := by kernel_rfl
noncomputable def q201 : List SV → List Blk → Option ((SV × List Blk) × Bool)
  | [(.one (.lit (.int .i64 c0)))], [] => some (n201 c0 (g201 c0), k201 c0)
  | _, _ => none
theorem t201 (args : List SV) (hp : List Blk) (r : SV × List Blk) (h : q201 args hp = some (r, true)) : frzR R 100201 args hp = some r := by
  unfold q201 at h
  split at h
  · rename_i c0
    obtain ⟨hr, hk⟩ := Prod.mk.inj (Option.some.inj h)
    exact fnZ_c (f := 201) Q144_ok (loops_of (l := []) rfl trivial) (e201 c0) hr hk (fun r h => R_fn at201 9223372036854775808 h)
  · simp at h
noncomputable def Q201 : Qt := qcons 100201 q201 Q144
theorem Q201_ok : QOk (frzR R) Q201 := qcons_ok t201 Q144_ok
/-! spec.l1Top -/
noncomputable def T220 (x0 : Int) : Pt (Int) := (.ok true (.ok ((leI 0 (wrapK .u64 (mulI 8 x0))) && true) (.ok true (.ok true (.leaf (shlI 1 (wrapK .u64 (mulI 8 x0))))))))
noncomputable def g220 (x0 : Int) : Int := hid (T220 x0).val
noncomputable def k220 (x0 : Int) : Bool := hid (T220 x0).okv
noncomputable def n220 (x0 : Int) (r : Int) : SV × List Blk := ((.one (.lit (.int .i64 r))), [])
theorem e220 (x0 : Int) : fnZ Q201 [] [] true [] 9223372036854775808 F220 [(.one (.lit (.int .i64 x0)))] = some ((T220 x0).map (n220 x0)) := by kernel_rfl
noncomputable def q220 : List SV → List Blk → Option ((SV × List Blk) × Bool)
  | [(.one (.lit (.int .i64 c0)))], [] => some (n220 c0 (g220 c0), k220 c0)
  | _, _ => none
theorem t220 (args : List SV) (hp : List Blk) (r : SV × List Blk) (h : q220 args hp = some (r, true)) : frzR R 100220 args hp = some r := by
  unfold q220 at h
  split at h
  · rename_i c0
    obtain ⟨hr, hk⟩ := Prod.mk.inj (Option.some.inj h)
    exact fnZ_c (f := 220) Q201_ok (loops_of (l := []) rfl trivial) (e220 c0) hr hk (fun r h => R_fn at220 9223372036854775808 h)
  · simp at h
noncomputable def Q220 : Qt := qcons 100220 q220 Q201
theorem Q220_ok : QOk (frzR R) Q220 := qcons_ok t220 Q201_ok
/-! spec.l1Value -/
noncomputable def T181 (x0 : Int) (x1 : Int) : Pt (Bool) := (.ok true (.ok ((k201 x0) && ((((k220 x0) && ((k144 x1 0 (subI (g220 x0) 1)) && true)) || (!(g201 x0))) && true)) (.ok true (.ok true (.leaf (bif (g201 x0) then (g144 x1 0 (subI (g220 x0) 1)) else false))))))
noncomputable def g181 (x0 : Int) (x1 : Int) : Bool := hid (T181 x0 x1).val
noncomputable def k181 (x0 : Int) (x1 : Int) : Bool := hid (T181 x0 x1).okv
noncomputable def n181 (x0 : Int) (x1 : Int) (r : Bool) : SV × List Blk := ((.one (.lit (.bool r))), [])
theorem e181 (x0 : Int) (x1 : Int) : fnZ Q220 [] [] true [] 9223372036854775808 F181 [(.one (.lit (.int .i64 x0))), (.one (.lit (.int .i64 x1)))] = some ((T181 x0 x1).map (n181 x0 x1)) := by kernel_rfl
noncomputable def q181 : List SV → List Blk → Option ((SV × List Blk) × Bool)
  | [(.one (.lit (.int .i64 c0))), (.one (.lit (.int .i64 c1)))], [] => some (n181 c0 c1 (g181 c0 c1), k181 c0 c1)
  | _, _ => none
theorem t181 (args : List SV) (hp : List Blk) (r : SV × List Blk) (h : q181 args hp = some (r, true)) : frzR R 100181 args hp = some r := by
  unfold q181 at h
  split at h
  · rename_i c0 c1
    obtain ⟨hr, hk⟩ := Prod.mk.inj (Option.some.inj h)
    exact fnZ_c (f := 181) Q220_ok (loops_of (l := []) rfl trivial) (e181 c0 c1) hr hk (fun r h => R_fn at181 9223372036854775808 h)
  · simp at h
noncomputable def Q181 : Qt := qcons 100181 q181 Q220
theorem Q181_ok : QOk (frzR R) Q181 := qcons_ok t181 Q220_ok
/-! spec.l1Two -/
noncomputable def y153_0 (x0 : Int) (x2 : Int) (x3 : Int) : Bool := (bif (g181 x0 x2) then (g181 x0 x3) else false)
noncomputable def T153 (x0 : Int) (x1 : Int) (x2 : Int) (x3 : Int) : Pt (Bool) := (.ok true (.ok ((k181 x0 x2) && ((((k181 x0 x3) && true) || (!(g181 x0 x2))) && ((((k144 x1 0 1) && true) || (!(y153_0 x0 x2 x3))) && true))) (.ok true (.ok true (.leaf (bif (y153_0 x0 x2 x3) then (g144 x1 0 1) else false))))))
noncomputable def g153 (x0 : Int) (x1 : Int) (x2 : Int) (x3 : Int) : Bool := hid (T153 x0 x1 x2 x3).val
noncomputable def k153 (x0 : Int) (x1 : Int) (x2 : Int) (x3 : Int) : Bool := hid (T153 x0 x1 x2 x3).okv
noncomputable def n153 (x0 : Int) (x1 : Int) (x2 : Int) (x3 : Int) (r : Bool) : SV × List Blk := ((.one (.lit (.bool r))), [])
theorem e153 (x0 : Int) (x1 : Int) (x2 : Int) (x3 : Int) : fnZ Q181 [] [] true [] 9223372036854775808 F153 [(.one (.lit (.int .i64 x0))), (.one (.lit (.int .i64 x1))), (.one (.lit (.int .i64 x2))), (.one (.lit (.int .i64 x3)))] = some ((T153 x0 x1 x2 x3).map (n153 x0 x1 x2 x3)) := by kernel_rfl
noncomputable def q153 : List SV → List Blk → Option ((SV × List Blk) × Bool)
  | [(.one (.lit (.int .i64 c0))), (.one (.lit (.int .i64 c1))), (.one (.lit (.int .i64 c2))), (.one (.lit (.int .i64 c3)))], [] => some (n153 c0 c1 c2 c3 (g153 c0 c1 c2 c3), k153 c0 c1 c2 c3)
  | _, _ => none
theorem t153 (args : List SV) (hp : List Blk) (r : SV × List Blk) (h : q153 args hp = some (r, true)) : frzR R 100153 args hp = some r := by
  unfold q153 at h
  split at h
  · rename_i c0 c1 c2 c3
    obtain ⟨hr, hk⟩ := Prod.mk.inj (Option.some.inj h)
    exact fnZ_c (f := 153) Q181_ok (loops_of (l := []) rfl trivial) (e153 c0 c1 c2 c3) hr hk (fun r h => R_fn at153 9223372036854775808 h)
  · simp at h
noncomputable def Q153 : Qt := qcons 100153 q153 Q181
theorem Q153_ok : QOk (frzR R) Q153 := qcons_ok t153 Q181_ok
/-! spec.l1Signed -/
noncomputable def T182 (x0 : Int) (x1 : Int) : Pt (Int) := (.ok true (.ok ((k220 x0) && true) (.br (geI x1 (quoI (g220 x0) 2)) (.ok ((k220 x0) && true) (.ok true (.ok true (.leaf (subI x1 (g220 x0)))))) (.ok true (.ok true (.ok true (.leaf x1)))))))
noncomputable def g182 (x0 : Int) (x1 : Int) : Int := hid (T182 x0 x1).val
noncomputable def k182 (x0 : Int) (x1 : Int) : Bool := hid (T182 x0 x1).okv
noncomputable def n182 (x0 : Int) (x1 : Int) (r : Int) : SV × List Blk := ((.one (.lit (.int .i64 r))), [])
theorem e182 (x0 : Int) (x1 : Int) : fnZ Q153 [] [] true [] 9223372036854775808 F182 [(.one (.lit (.int .i64 x0))), (.one (.lit (.int .i64 x1)))] = some ((T182 x0 x1).map (n182 x0 x1)) := by kernel_rfl
noncomputable def q182 : List SV → List Blk → Option ((SV × List Blk) × Bool)
  | [(.one (.lit (.int .i64 c0))), (.one (.lit (.int .i64 c1)))], [] => some (n182 c0 c1 (g182 c0 c1), k182 c0 c1)
  | _, _ => none
theorem t182 (args : List SV) (hp : List Blk) (r : SV × List Blk) (h : q182 args hp = some (r, true)) : frzR R 100182 args hp = some r := by
  unfold q182 at h
  split at h
  · rename_i c0 c1
    obtain ⟨hr, hk⟩ := Prod.mk.inj (Option.some.inj h)
    exact fnZ_c (f := 182) Q153_ok (loops_of (l := []) rfl trivial) (e182 c0 c1) hr hk (fun r h => R_fn at182 9223372036854775808 h)
  · simp at h
noncomputable def Q182 : Qt := qcons 100182 q182 Q153
theorem Q182_ok : QOk (frzR R) Q182 := qcons_ok t182 Q153_ok
/-! spec.l1Flag -/
noncomputable def T168 (x0 : Bool) (x1 : Int) : Pt (Int) := (.ok true (.ok true (.br x0 (.ok true (.ok true (.ok true (.leaf x1)))) (.ok true (.ok true (.ok true (.leaf 0)))))))
noncomputable def g168 (x0 : Bool) (x1 : Int) : Int := hid (T168 x0 x1).val
noncomputable def k168 (x0 : Bool) (x1 : Int) : Bool := hid (T168 x0 x1).okv
noncomputable def n168 (x0 : Bool) (x1 : Int) (r : Int) : SV × List Blk := ((.one (.lit (.int .i64 r))), [])
theorem e168 (x0 : Bool) (x1 : Int) : fnZ Q182 [] [] true [] 9223372036854775808 F168 [(.one (.lit (.bool x0))), (.one (.lit (.int .i64 x1)))] = some ((T168 x0 x1).map (n168 x0 x1)) := by kernel_rfl
noncomputable def q168 : List SV → List Blk → Option ((SV × List Blk) × Bool)
  | [(.one (.lit (.bool c0))), (.one (.lit (.int .i64 c1)))], [] => some (n168 c0 c1 (g168 c0 c1), k168 c0 c1)
  | _, _ => none
theorem t168 (args : List SV) (hp : List Blk) (r : SV × List Blk) (h : q168 args hp = some (r, true)) : frzR R 100168 args hp = some r := by
  unfold q168 at h
  split at h
  · rename_i c0 c1
    obtain ⟨hr, hk⟩ := Prod.mk.inj (Option.some.inj h)
    exact fnZ_c (f := 168) Q182_ok (loops_of (l := []) rfl trivial) (e168 c0 c1) hr hk (fun r h => R_fn at168 9223372036854775808 h)
  · simp at h
noncomputable def Q168 : Qt := qcons 100168 q168 Q182
theorem Q168_ok : QOk (frzR R) Q168 := qcons_ok t168 Q182_ok
/-! spec.l1Zn -/
noncomputable def T221 (x0 : Int) (x1 : Int) : Pt (Int) := (.ok true (.ok ((k168 (eqI x1 0) 4) && ((k220 x0) && ((k168 (geI x1 (quoI (g220 x0) 2)) 8) && true))) (.ok true (.ok true (.leaf (orI (g168 (eqI x1 0) 4) (g168 (geI x1 (quoI (g220 x0) 2)) 8)))))))
noncomputable def g221 (x0 : Int) (x1 : Int) : Int := hid (T221 x0 x1).val
noncomputable def k221 (x0 : Int) (x1 : Int) : Bool := hid (T221 x0 x1).okv
noncomputable def n221 (x0 : Int) (x1 : Int) (r : Int) : SV × List Blk := ((.one (.lit (.int .i64 r))), [])
theorem e221 (x0 : Int) (x1 : Int) : fnZ Q168 [] [] true [] 9223372036854775808 F221 [(.one (.lit (.int .i64 x0))), (.one (.lit (.int .i64 x1)))] = some ((T221 x0 x1).map (n221 x0 x1)) := by kernel_rfl
noncomputable def q221 : List SV → List Blk → Option ((SV × List Blk) × Bool)
  | [(.one (.lit (.int .i64 c0))), (.one (.lit (.int .i64 c1)))], [] => some (n221 c0 c1 (g221 c0 c1), k221 c0 c1)
  | _, _ => none
theorem t221 (args : List SV) (hp : List Blk) (r : SV × List Blk) (h : q221 args hp = some (r, true)) : frzR R 100221 args hp = some r := by
  unfold q221 at h
  split at h
  · rename_i c0 c1
    obtain ⟨hr, hk⟩ := Prod.mk.inj (Option.some.inj h)
    exact fnZ_c (f := 221) Q168_ok (loops_of (l := []) rfl trivial) (e221 c0 c1) hr hk (fun r h => R_fn at221 9223372036854775808 h)
  · simp at h
noncomputable def Q221 : Qt := qcons 100221 q221 Q168
theorem Q221_ok : QOk (frzR R) Q221 := qcons_ok t221 Q168_ok
/-! spec.l1Add -/
noncomputable def y154_0 (x0 : Int) (x1 : Int) (x2 : Int) (x3 : Int) : Int := (andI (addI (addI x2 x3) x1) (subI (g220 x0) 1))
noncomputable def y154_1 (x0 : Int) (x1 : Int) (x2 : Int) (x3 : Int) : Bool := (neI (addI (addI x2 x3) x1) (y154_0 x0 x1 x2 x3))
noncomputable def y154_2 (x0 : Int) (x1 : Int) (x2 : Int) (x3 : Int) : Bool := (neI (addI (addI (g182 x0 x2) (g182 x0 x3)) x1) (g182 x0 (y154_0 x0 x1 x2 x3)))
noncomputable def T154 (x0 : Int) (x1 : Int) (x2 : Int) (x3 : Int) : Pt (Int × Int) := (.ok true (.ok true (.ok ((k220 x0) && true) (.ok ((k182 x0 x2) && ((k182 x0 x3) && true)) (.ok ((k168 (y154_1 x0 x1 x2 x3) 17) && ((k182 x0 (y154_0 x0 x1 x2 x3)) && ((k168 (y154_2 x0 x1 x2 x3) 2) && ((k221 x0 (y154_0 x0 x1 x2 x3)) && true)))) (.ok true (.ok true (.leaf ((y154_0 x0 x1 x2 x3), (orI (orI (g168 (y154_1 x0 x1 x2 x3) 17) (g168 (y154_2 x0 x1 x2 x3) 2)) (g221 x0 (y154_0 x0 x1 x2 x3))))))))))))
noncomputable def g154 (x0 : Int) (x1 : Int) (x2 : Int) (x3 : Int) : Int × Int := hid (T154 x0 x1 x2 x3).val
noncomputable def k154 (x0 : Int) (x1 : Int) (x2 : Int) (x3 : Int) : Bool := hid (T154 x0 x1 x2 x3).okv
noncomputable def n154 (x0 : Int) (x1 : Int) (x2 : Int) (x3 : Int) (r : Int × Int) : SV × List Blk := ((.tup [(.one (.lit (.int .i64 r.1))), (.one (.lit (.int .i64 r.2)))]), [])
theorem e154 (x0 : Int) (x1 : Int) (x2 : Int) (x3 : Int) : fnZ Q221 [] [] true [] 9223372036854775808 F154 [(.one (.lit (.int .i64 x0))), (.one (.lit (.int .i64 x1))), (.one (.lit (.int .i64 x2))), (.one (.lit (.int .i64 x3)))] = some ((T154 x0 x1 x2 x3).map (n154 x0 x1 x2 x3)) := by kernel_rfl
noncomputable def q154 : List SV → List Blk → Option ((SV × List Blk) × Bool)
  | [(.one (.lit (.int .i64 c0))), (.one (.lit (.int .i64 c1))), (.one (.lit (.int .i64 c2))), (.one (.lit (.int .i64 c3)))], [] => some (n154 c0 c1 c2 c3 (g154 c0 c1 c2 c3), k154 c0 c1 c2 c3)
  | _, _ => none
theorem t154 (args : List SV) (hp : List Blk) (r : SV × List Blk) (h : q154 args hp = some (r, true)) : frzR R 100154 args hp = some r := by
  unfold q154 at h
  split at h
  · rename_i c0 c1 c2 c3
    obtain ⟨hr, hk⟩ := Prod.mk.inj (Option.some.inj h)
    exact fnZ_c (f := 154) Q221_ok (loops_of (l := []) rfl trivial) (e154 c0 c1 c2 c3) hr hk (fun r h => R_fn at154 9223372036854775808 h)
  · simp at h
noncomputable def Q154 : Qt := qcons 100154 q154 Q221
theorem Q154_ok : QOk (frzR R) Q154 := qcons_ok t154 Q221_ok
/-! spec.AddFlags -/
noncomputable def T29 (x0 : Int) (x1 : Int) (x2 : Int) (x3 : Int) : Pt (Int × Int × Bool) := (.ok true (.ok ((k153 x0 x1 x2 x3) && true) (.br (!(g153 x0 x1 x2 x3)) (.ok true (.ok true (.ok true (.leaf (0, 0, false))))) (.ok ((k154 x0 x1 x2 x3) && true) (.ok true (.ok true (.ok true (.leaf ((g154 x0 x1 x2 x3).1, (g154 x0 x1 x2 x3).2, true)))))))))
noncomputable def g29 (x0 : Int) (x1 : Int) (x2 : Int) (x3 : Int) : Int × Int × Bool := hid (T29 x0 x1 x2 x3).val
noncomputable def k29 (x0 : Int) (x1 : Int) (x2 : Int) (x3 : Int) : Bool := hid (T29 x0 x1 x2 x3).okv
noncomputable def n29 (x0 : Int) (x1 : Int) (x2 : Int) (x3 : Int) (r : Int × Int × Bool) : SV × List Blk := ((.tup [(.one (.lit (.int .i64 r.1))), (.one (.lit (.int .i64 r.2.1))), (.one (.lit (.bool r.2.2)))]), [])
theorem e29 (x0 : Int) (x1 : Int) (x2 : Int) (x3 : Int) : fnZ Q154 [] [] true [] 9223372036854775808 F29 [(.one (.lit (.int .i64 x0))), (.one (.lit (.int .i64 x1))), (.one (.lit (.int .i64 x2))), (.one (.lit (.int .i64 x3)))] = some ((T29 x0 x1 x2 x3).map (n29 x0 x1 x2 x3)) := by kernel_rfl
noncomputable def q29 : List SV → List Blk → Option ((SV × List Blk) × Bool)
  | [(.one (.lit (.int .i64 c0))), (.one (.lit (.int .i64 c1))), (.one (.lit (.int .i64 c2))), (.one (.lit (.int .i64 c3)))], [] => some (n29 c0 c1 c2 c3 (g29 c0 c1 c2 c3), k29 c0 c1 c2 c3)
  | _, _ => none
theorem t29 (args : List SV) (hp : List Blk) (r : SV × List Blk) (h : q29 args hp = some (r, true)) : frzR R 100029 args hp = some r := by
  unfold q29 at h
  split at h
  · rename_i c0 c1 c2 c3
    obtain ⟨hr, hk⟩ := Prod.mk.inj (Option.some.inj h)
    exact fnZ_c (f := 29) Q154_ok (loops_of (l := []) rfl trivial) (e29 c0 c1 c2 c3) hr hk (fun r h => R_fn at29 9223372036854775808 h)
  · simp at h
noncomputable def Q29 : Qt := qcons 100029 q29 Q154
theorem Q29_ok : QOk (frzR R) Q29 := qcons_ok t29 Q154_ok
/-! spec.AddMany -/
structure V89_0 where
  mk ::
  (s0 : Int)
  (s1 : List Row)
  (s2 : List Row)
  (s9 : List Row)
  (s10 : Int)
  (s11 : Int)
  (s12 : Bool)
  (s29 : Int)
  (s30 : Int)
noncomputable def y89_0_l_0 (v : V89_0) : Int × Int × Bool := (g29 v.s0 v.s10 (intAt v.s1 (Int.toNat v.s30) 0) (intAt v.s2 (Int.toNat v.s30) 0))
noncomputable def y89_0_l_1 (v : V89_0) : Nat := (List.length (v.s9 ++ [(rowI (y89_0_l_0 v).1)]))
noncomputable def y89_0_l_2 (v : V89_0) : Bool := ((eqN (y89_0_l_1 v) (y89_0_l_1 v)) && true)
noncomputable def N89_0 (v : V89_0) : Pt (Option V89_0) := (.ok true (.br (ltI v.s30 v.s29) (.ok true (.ok ((inRow [.int .i64] v.s1 v.s30) && ((inRow [.int .i64] v.s2 v.s30) && ((k29 v.s0 v.s10 (intAt v.s1 (Int.toNat v.s30) 0) (intAt v.s2 (Int.toNat v.s30) 0)) && true))) (.ok true (.br (!(y89_0_l_0 v).2.2) (.ok true (.leaf none)) (.ok (((eqN (List.length v.s9) (List.length v.s9)) && ((eqN (0 + (List.length v.s9)) (List.length v.s9)) && ((leN (mulN ((List.length v.s9) + 1) 8) 140737488355328) && (leN ((List.length v.s9) + 1) 140737488355328)))) && true) (.ok true (.ok true (.ok true (.ok true (.ok ((y89_0_l_2 v) && (y89_0_l_2 v)) (.leaf (some { v with s9 := (v.s9 ++ [(rowI (y89_0_l_0 v).1)]), s10 := (andI (y89_0_l_0 v).2.1 1), s11 := (y89_0_l_0 v).2.1, s12 := (bif v.s12 then (eqI (y89_0_l_0 v).1 0) else false), s30 := (addI v.s30 1) })))))))))))) (.leaf none)))
noncomputable def s89_0 (v : V89_0) : St := ⟨[(0, (.one (.lit (.int .i64 v.s0)))), (1, (.one (.imm true 1 v.s1))), (2, (.one (.imm true 1 v.s2))), (9, (.one (.sl 0 0 (List.length v.s9)))), (10, (.one (.lit (.int .i64 v.s10)))), (11, (.one (.lit (.int .i64 v.s11)))), (12, (.one (.lit (.bool v.s12)))), (29, (.one (.lit (.int .i64 v.s29)))), (30, (.one (.lit (.int .i64 v.s30))))], [.lst 1 v.s9]⟩
def u89_0 : St → Option (V89_0 × Bool)
  | ⟨[(0, (.one (.lit (.int .i64 c0)))), (1, (.one (.imm true 1 c1))), (2, (.one (.imm true 1 c2))), (9, (.one (.sl 0 0 l0))), (10, (.one (.lit (.int .i64 c3)))), (11, (.one (.lit (.int .i64 c4)))), (12, (.one (.lit (.bool c5)))), (29, (.one (.lit (.int .i64 c6)))), (30, (.one (.lit (.int .i64 c7))))], [.lst 1 c_0]⟩ => some ((V89_0.mk c0 c1 c2 c_0 c3 c4 c5 c6 c7), eqN l0 (List.length c_0) && (true))
  | _ => none
theorem hN89_0 (v : V89_0) : ((evp Q29 [(38, [.int .i64]), (39, [.int .i64]), (42, [.int .i64]), (43, [.int .i64])] [] true [] 0 9223372036854775808 F89b0 (s89_0 v)).bind (stpT true false 0 [0, 1, 2, 9, 10, 11, 12, 29, 30])) = some ((N89_0 v).map (Option.map s89_0)) := by kernel_rfl
theorem hu89_0 (σ : St) (v : V89_0) (h : u89_0 σ = some (v, true)) : σ = s89_0 v := by
  unfold u89_0 at h
  split at h
  · obtain ⟨hr, hk⟩ := Prod.mk.inj (Option.some.inj h)
    obtain ⟨d0, hk0⟩ := and_t hk
    obtain rfl := of_decide_eq_true d0
    rw [← hr]
    rfl
  · simp at h
theorem lt89_0 : TellsP (lqP true false 0 [0, 1, 2, 9, 10, 11, 12, 29, 30] (evp Q29 [(38, [.int .i64]), (39, [.int .i64]), (42, [.int .i64]), (43, [.int .i64])] [] true [] 0 9223372036854775808 F89b0) u89_0 s89_0 N89_0 9223372036854775808) (evc R 0 9223372036854775808 (.loop [0, 1, 2, 9, 10, 11, 12, 29, 30] F89b0)) := lqP_tells (evp_tells Q29_ok (loops_of (l := []) (by kernel_rfl) trivial)) hu89_0 hN89_0
noncomputable def lq89_0 : Lp := (31, lqP true false 0 [0, 1, 2, 9, 10, 11, 12, 29, 30] (evp Q29 [(38, [.int .i64]), (39, [.int .i64]), (42, [.int .i64]), (43, [.int .i64])] [] true [] 0 9223372036854775808 F89b0) u89_0 s89_0 N89_0 9223372036854775808) :: []
noncomputable def w89_0 (v : V89_0) : V89_0 := (hid (loopV N89_0 9223372036854775808 v)).getD v
noncomputable def i89_0 (v : V89_0) : Bool := (hid (loopV N89_0 9223372036854775808 v)).isSome
noncomputable def y89_0 (x0 : Int) (x1 : List Row) (x2 : List Row) : V89_0 := (w89_0 (V89_0.mk x0 x1 x2 [] 0 0 true (lenI x1) 0))
noncomputable def y89_1 (x0 : Int) (x1 : List Row) (x2 : List Row) : Bool := ((eqN (List.length (y89_0 x0 x1 x2).s9) (List.length (y89_0 x0 x1 x2).s9)) && true)
noncomputable def T89 (x0 : Int) (x1 : List Row) (x2 : List Row) : Pt (List Row × Int × Bool) := (.ok true (.ok ((k144 (lenI x1) 1 8) && true) (.br (bif (!(g144 (lenI x1) 1 8)) then true else (neI (lenI x2) (lenI x1))) (.ok true (.ok true (.ok true (.leaf ([], 0, false))))) (.ok true (.ok true (.ok true (.ok true (.ok true (.ok true (.ok true (.ok (i89_0 (V89_0.mk x0 x1 x2 [] 0 0 true (lenI x1) 0)) (.br (ltI (y89_0 x0 x1 x2).s30 (y89_0 x0 x1 x2).s29) (.ok true (.ok true (.leaf ([], 0, false)))) (.ok ((k168 (y89_0 x0 x1 x2).s12 4) && true) (.ok ((y89_1 x0 x1 x2) && (y89_1 x0 x1 x2)) (.ok (y89_1 x0 x1 x2) (.leaf ((y89_0 x0 x1 x2).s9, (orI (andNotI (y89_0 x0 x1 x2).s11 4) (g168 (y89_0 x0 x1 x2).s12 4)), true)))))))))))))))))
noncomputable def g89 (x0 : Int) (x1 : List Row) (x2 : List Row) : List Row × Int × Bool := hid (T89 x0 x1 x2).val
noncomputable def k89 (x0 : Int) (x1 : List Row) (x2 : List Row) : Bool := hid (T89 x0 x1 x2).okv
noncomputable def n89 (x0 : Int) (x1 : List Row) (x2 : List Row) (r : List Row × Int × Bool) : SV × List Blk := ((.tup [(.one (.imm true 1 r.1)), (.one (.lit (.int .i64 r.2.1))), (.one (.lit (.bool r.2.2)))]), [])
theorem e89 (x0 : Int) (x1 : List Row) (x2 : List Row) : fnZ Q29 [(38, [.int .i64]), (39, [.int .i64]), (42, [.int .i64]), (43, [.int .i64])] [] true lq89_0 9223372036854775808 F89 [(.one (.lit (.int .i64 x0))), (.one (.imm true 1 x1)), (.one (.imm true 1 x2))] = some ((T89 x0 x1 x2).map (n89 x0 x1 x2)) := by kernel_rfl
noncomputable def q89 : List SV → List Blk → Option ((SV × List Blk) × Bool)
  | [(.one (.lit (.int .i64 c0))), (.one (.imm true 1 c1)), (.one (.imm true 1 c2))], [] => some (n89 c0 c1 c2 (g89 c0 c1 c2), k89 c0 c1 c2)
  | _, _ => none
theorem hL89 : Loops (fun live x => TellsP (lpAt lq89_0 (tagC x)) (evc R 0 9223372036854775808 (.loop live x))) F89.body := (loops_of (l := [([0, 1, 2, 9, 10, 11, 12, 29, 30], F89b0)]) (by kernel_rfl) ⟨fun σ σr t h ho hl => lt89_0 σ σr t h ho hl, trivial⟩)
theorem t89 (args : List SV) (hp : List Blk) (r : SV × List Blk) (h : q89 args hp = some (r, true)) : frzR R 100089 args hp = some r := by
  unfold q89 at h
  split at h
  · rename_i c0 c1 c2
    obtain ⟨hr, hk⟩ := Prod.mk.inj (Option.some.inj h)
    exact fnZ_c (f := 89) Q29_ok hL89 (e89 c0 c1 c2) hr hk (fun r h => R_fn at89 9223372036854775808 h)
  · simp at h
noncomputable def Q89 : Qt := qcons 100089 q89 Q29
theorem Q89_ok : QOk (frzR R) Q89 := qcons_ok t89 Q29_ok
/-! laws.sameInts -/
structure V47_0 where
  mk ::
  (s0 : List Row)
  (s1 : List Row)
  (s12 : Int)
  (s13 : Int)
noncomputable def N47_0 (v : V47_0) : Pt (Option V47_0) := (.ok true (.br (ltI v.s13 v.s12) (.ok true (.ok ((inRow [.int .i64] v.s0 v.s13) && ((inRow [.int .i64] v.s1 v.s13) && true)) (.br (neI (intAt v.s0 (Int.toNat v.s13) 0) (intAt v.s1 (Int.toNat v.s13) 0)) (.ok true (.leaf none)) (.ok true (.ok true (.leaf (some { v with s13 := (addI v.s13 1) }))))))) (.leaf none)))
noncomputable def s47_0 (v : V47_0) : St := ⟨[(0, (.one (.imm true 1 v.s0))), (1, (.one (.imm true 1 v.s1))), (12, (.one (.lit (.int .i64 v.s12)))), (13, (.one (.lit (.int .i64 v.s13))))], []⟩
def u47_0 : St → Option (V47_0 × Bool)
  | ⟨[(0, (.one (.imm true 1 c0))), (1, (.one (.imm true 1 c1))), (12, (.one (.lit (.int .i64 c2)))), (13, (.one (.lit (.int .i64 c3))))], []⟩ => some ((V47_0.mk c0 c1 c2 c3), true)
  | _ => none
theorem hN47_0 (v : V47_0) : ((evp Q89 [(18, [.int .i64]), (19, [.int .i64]), (22, [.int .i64]), (23, [.int .i64])] [] true [] 0 9223372036854775808 F47b0 (s47_0 v)).bind (stpT true false 0 [0, 1, 12, 13])) = some ((N47_0 v).map (Option.map s47_0)) := by kernel_rfl
theorem hu47_0 (σ : St) (v : V47_0) (h : u47_0 σ = some (v, true)) : σ = s47_0 v := by
  unfold u47_0 at h
  split at h
  · obtain ⟨hr, hk⟩ := Prod.mk.inj (Option.some.inj h)
    rw [← hr]
    rfl
  · simp at h
theorem lt47_0 : TellsP (lqP true false 0 [0, 1, 12, 13] (evp Q89 [(18, [.int .i64]), (19, [.int .i64]), (22, [.int .i64]), (23, [.int .i64])] [] true [] 0 9223372036854775808 F47b0) u47_0 s47_0 N47_0 9223372036854775808) (evc R 0 9223372036854775808 (.loop [0, 1, 12, 13] F47b0)) := lqP_tells (evp_tells Q89_ok (loops_of (l := []) (by kernel_rfl) trivial)) hu47_0 hN47_0
noncomputable def lq47_0 : Lp := (14, lqP true false 0 [0, 1, 12, 13] (evp Q89 [(18, [.int .i64]), (19, [.int .i64]), (22, [.int .i64]), (23, [.int .i64])] [] true [] 0 9223372036854775808 F47b0) u47_0 s47_0 N47_0 9223372036854775808) :: []
noncomputable def w47_0 (v : V47_0) : V47_0 := (hid (loopV N47_0 9223372036854775808 v)).getD v
noncomputable def i47_0 (v : V47_0) : Bool := (hid (loopV N47_0 9223372036854775808 v)).isSome
noncomputable def y47_0 (x0 : List Row) (x1 : List Row) : V47_0 := (w47_0 (V47_0.mk x0 x1 (lenI x0) 0))
noncomputable def T47 (x0 : List Row) (x1 : List Row) : Pt (Bool) := (.ok true (.ok true (.br (neI (lenI x0) (lenI x1)) (.ok true (.ok true (.ok true (.leaf false)))) (.ok true (.ok true (.ok true (.ok (i47_0 (V47_0.mk x0 x1 (lenI x0) 0)) (.br (ltI (y47_0 x0 x1).s13 (y47_0 x0 x1).s12) (.ok true (.ok true (.leaf false))) (.ok true (.ok true (.ok true (.leaf true))))))))))))
noncomputable def g47 (x0 : List Row) (x1 : List Row) : Bool := hid (T47 x0 x1).val
noncomputable def k47 (x0 : List Row) (x1 : List Row) : Bool := hid (T47 x0 x1).okv
noncomputable def n47 (x0 : List Row) (x1 : List Row) (r : Bool) : SV × List Blk := ((.one (.lit (.bool r))), [])
theorem e47 (x0 : List Row) (x1 : List Row) : fnZ Q89 [(18, [.int .i64]), (19, [.int .i64]), (22, [.int .i64]), (23, [.int .i64])] [] true lq47_0 9223372036854775808 F47 [(.one (.imm true 1 x0)), (.one (.imm true 1 x1))] = some ((T47 x0 x1).map (n47 x0 x1)) := by kernel_rfl
noncomputable def q47 : List SV → List Blk → Option ((SV × List Blk) × Bool)
  | [(.one (.imm true 1 c0)), (.one (.imm true 1 c1))], [] => some (n47 c0 c1 (g47 c0 c1), k47 c0 c1)
  | _, _ => none
theorem hL47 : Loops (fun live x => TellsP (lpAt lq47_0 (tagC x)) (evc R 0 9223372036854775808 (.loop live x))) F47.body := (loops_of (l := [([0, 1, 12, 13], F47b0)]) (by kernel_rfl) ⟨fun σ σr t h ho hl => lt47_0 σ σr t h ho hl, trivial⟩)
theorem t47 (args : List SV) (hp : List Blk) (r : SV × List Blk) (h : q47 args hp = some (r, true)) : frzR R 100047 args hp = some r := by
  unfold q47 at h
  split at h
  · rename_i c0 c1
    obtain ⟨hr, hk⟩ := Prod.mk.inj (Option.some.inj h)
    exact fnZ_c (f := 47) Q89_ok hL47 (e47 c0 c1) hr hk (fun r h => R_fn at47 9223372036854775808 h)
  · simp at h
noncomputable def Q47 : Qt := qcons 100047 q47 Q89
theorem Q47_ok : QOk (frzR R) Q47 := qcons_ok t47 Q89_ok
/-! laws.topOf -/
noncomputable def T32 (x0 : Int) : Pt (Int) := (.ok true (.ok true (.br (eqI x0 1) (.ok true (.ok true (.ok true (.leaf 256)))) (.ok true (.ok true (.ok true (.leaf 65536)))))))
noncomputable def g32 (x0 : Int) : Int := hid (T32 x0).val
noncomputable def k32 (x0 : Int) : Bool := hid (T32 x0).okv
noncomputable def n32 (x0 : Int) (r : Int) : SV × List Blk := ((.one (.lit (.int .i64 r))), [])
theorem e32 (x0 : Int) : fnZ Q47 [] [] true [] 9223372036854775808 F32 [(.one (.lit (.int .i64 x0)))] = some ((T32 x0).map (n32 x0)) := by kernel_rfl
noncomputable def q32 : List SV → List Blk → Option ((SV × List Blk) × Bool)
  | [(.one (.lit (.int .i64 c0)))], [] => some (n32 c0 (g32 c0), k32 c0)
  | _, _ => none
theorem t32 (args : List SV) (hp : List Blk) (r : SV × List Blk) (h : q32 args hp = some (r, true)) : frzR R 100032 args hp = some r := by
  unfold q32 at h
  split at h
  · rename_i c0
    obtain ⟨hr, hk⟩ := Prod.mk.inj (Option.some.inj h)
    exact fnZ_c (f := 32) Q47_ok (loops_of (l := []) rfl trivial) (e32 c0) hr hk (fun r h => R_fn at32 9223372036854775808 h)
  · simp at h
noncomputable def Q32 : Qt := qcons 100032 q32 Q47
theorem Q32_ok : QOk (frzR R) Q32 := qcons_ok t32 Q47_ok
/-! spec.DrawExtendWord -/
noncomputable def T90 (x0 : List Row) : Pt (Int) := (.ok true (.ok true (.ok ((k149 1 (Gl1Cur.mk x0 0 0)) && true) (.ok true (.ok true (.leaf (g149 1 (Gl1Cur.mk x0 0 0)).2))))))
noncomputable def g90 (x0 : List Row) : Int := hid (T90 x0).val
noncomputable def k90 (x0 : List Row) : Bool := hid (T90 x0).okv
noncomputable def n90 (x0 : List Row) (r : Int) : SV × List Blk := ((.one (.lit (.int .i64 r))), [])
theorem e90 (x0 : List Row) : fnZ Q32 [] [] true [] 9223372036854775808 F90 [(.one (.imm true 1 x0))] = some ((T90 x0).map (n90 x0)) := by kernel_rfl
noncomputable def q90 : List SV → List Blk → Option ((SV × List Blk) × Bool)
  | [(.one (.imm true 1 c0))], [] => some (n90 c0 (g90 c0), k90 c0)
  | _, _ => none
theorem t90 (args : List SV) (hp : List Blk) (r : SV × List Blk) (h : q90 args hp = some (r, true)) : frzR R 100090 args hp = some r := by
  unfold q90 at h
  split at h
  · rename_i c0
    obtain ⟨hr, hk⟩ := Prod.mk.inj (Option.some.inj h)
    exact fnZ_c (f := 90) Q32_ok (loops_of (l := []) rfl trivial) (e90 c0) hr hk (fun r h => R_fn at90 9223372036854775808 h)
  · simp at h
noncomputable def Q90 : Qt := qcons 100090 q90 Q32
theorem Q90_ok : QOk (frzR R) Q90 := qcons_ok t90 Q32_ok
/-! impl.ExtendWord -/
noncomputable def T91 (x0 : Int) : Pt (Int × Bool) := (.ok true (.ok ((k151 1 x0) && true) (.br (!(g151 1 x0)) (.ok true (.ok true (.ok true (.leaf (0, false))))) (.ok ((k157 1 x0) && true) (.ok true (.ok true (.leaf ((andI (g157 1 x0) 65535), true))))))))
noncomputable def g91 (x0 : Int) : Int × Bool := hid (T91 x0).val
noncomputable def k91 (x0 : Int) : Bool := hid (T91 x0).okv
noncomputable def n91 (x0 : Int) (r : Int × Bool) : SV × List Blk := ((.tup [(.one (.lit (.int .i64 r.1))), (.one (.lit (.bool r.2)))]), [])
theorem e91 (x0 : Int) : fnZ Q90 [] [] true [] 9223372036854775808 F91 [(.one (.lit (.int .i64 x0)))] = some ((T91 x0).map (n91 x0)) := by kernel_rfl
noncomputable def q91 : List SV → List Blk → Option ((SV × List Blk) × Bool)
  | [(.one (.lit (.int .i64 c0)))], [] => some (n91 c0 (g91 c0), k91 c0)
  | _, _ => none
theorem t91 (args : List SV) (hp : List Blk) (r : SV × List Blk) (h : q91 args hp = some (r, true)) : frzR R 100091 args hp = some r := by
  unfold q91 at h
  split at h
  · rename_i c0
    obtain ⟨hr, hk⟩ := Prod.mk.inj (Option.some.inj h)
    exact fnZ_c (f := 91) Q90_ok (loops_of (l := []) rfl trivial) (e91 c0) hr hk (fun r h => R_fn at91 9223372036854775808 h)
  · simp at h
noncomputable def Q91 : Qt := qcons 100091 q91 Q90
theorem Q91_ok : QOk (frzR R) Q91 := qcons_ok t91 Q90_ok
/-! spec.ExtendWord -/
noncomputable def T92 (x0 : Int) : Pt (Int × Bool) := (.ok true (.ok ((k181 1 x0) && true) (.br (!(g181 1 x0)) (.ok true (.ok true (.ok true (.leaf (0, false))))) (.ok ((k182 1 x0) && true) (.ok true (.ok true (.leaf ((andI (g182 1 x0) 65535), true))))))))
noncomputable def g92 (x0 : Int) : Int × Bool := hid (T92 x0).val
noncomputable def k92 (x0 : Int) : Bool := hid (T92 x0).okv
noncomputable def n92 (x0 : Int) (r : Int × Bool) : SV × List Blk := ((.tup [(.one (.lit (.int .i64 r.1))), (.one (.lit (.bool r.2)))]), [])
theorem e92 (x0 : Int) : fnZ Q91 [] [] true [] 9223372036854775808 F92 [(.one (.lit (.int .i64 x0)))] = some ((T92 x0).map (n92 x0)) := by kernel_rfl
noncomputable def q92 : List SV → List Blk → Option ((SV × List Blk) × Bool)
  | [(.one (.lit (.int .i64 c0)))], [] => some (n92 c0 (g92 c0), k92 c0)
  | _, _ => none
theorem t92 (args : List SV) (hp : List Blk) (r : SV × List Blk) (h : q92 args hp = some (r, true)) : frzR R 100092 args hp = some r := by
  unfold q92 at h
  split at h
  · rename_i c0
    obtain ⟨hr, hk⟩ := Prod.mk.inj (Option.some.inj h)
    exact fnZ_c (f := 92) Q91_ok (loops_of (l := []) rfl trivial) (e92 c0) hr hk (fun r h => R_fn at92 9223372036854775808 h)
  · simp at h
noncomputable def Q92 : Qt := qcons 100092 q92 Q91
theorem Q92_ok : QOk (frzR R) Q92 := qcons_ok t92 Q91_ok
/-! spec.DrawSwapBytes -/
noncomputable def T93 (x0 : List Row) : Pt (Int) := (.ok true (.ok true (.ok ((k166 (Gl1Cur.mk x0 0 0)) && true) (.ok true (.ok true (.leaf (g166 (Gl1Cur.mk x0 0 0)).2))))))
noncomputable def g93 (x0 : List Row) : Int := hid (T93 x0).val
noncomputable def k93 (x0 : List Row) : Bool := hid (T93 x0).okv
noncomputable def n93 (x0 : List Row) (r : Int) : SV × List Blk := ((.one (.lit (.int .i64 r))), [])
theorem e93 (x0 : List Row) : fnZ Q92 [] [] true [] 9223372036854775808 F93 [(.one (.imm true 1 x0))] = some ((T93 x0).map (n93 x0)) := by kernel_rfl
noncomputable def q93 : List SV → List Blk → Option ((SV × List Blk) × Bool)
  | [(.one (.imm true 1 c0))], [] => some (n93 c0 (g93 c0), k93 c0)
  | _, _ => none
theorem t93 (args : List SV) (hp : List Blk) (r : SV × List Blk) (h : q93 args hp = some (r, true)) : frzR R 100093 args hp = some r := by
  unfold q93 at h
  split at h
  · rename_i c0
    obtain ⟨hr, hk⟩ := Prod.mk.inj (Option.some.inj h)
    exact fnZ_c (f := 93) Q92_ok (loops_of (l := []) rfl trivial) (e93 c0) hr hk (fun r h => R_fn at93 9223372036854775808 h)
  · simp at h
noncomputable def Q93 : Qt := qcons 100093 q93 Q92
theorem Q93_ok : QOk (frzR R) Q93 := qcons_ok t93 Q92_ok
/-! impl.isWord -/
noncomputable def T160 (x0 : Int) : Pt (Bool) := (.ok true (.ok ((k142 x0 0 65535) && true) (.ok true (.ok true (.leaf (g142 x0 0 65535))))))
noncomputable def g160 (x0 : Int) : Bool := hid (T160 x0).val
noncomputable def k160 (x0 : Int) : Bool := hid (T160 x0).okv
noncomputable def n160 (x0 : Int) (r : Bool) : SV × List Blk := ((.one (.lit (.bool r))), [])
theorem e160 (x0 : Int) : fnZ Q93 [] [] true [] 9223372036854775808 F160 [(.one (.lit (.int .i64 x0)))] = some ((T160 x0).map (n160 x0)) := by kernel_rfl
noncomputable def q160 : List SV → List Blk → Option ((SV × List Blk) × Bool)
  | [(.one (.lit (.int .i64 c0)))], [] => some (n160 c0 (g160 c0), k160 c0)
  | _, _ => none
theorem t160 (args : List SV) (hp : List Blk) (r : SV × List Blk) (h : q160 args hp = some (r, true)) : frzR R 100160 args hp = some r := by
  unfold q160 at h
  split at h
  · rename_i c0
    obtain ⟨hr, hk⟩ := Prod.mk.inj (Option.some.inj h)
    exact fnZ_c (f := 160) Q93_ok (loops_of (l := []) rfl trivial) (e160 c0) hr hk (fun r h => R_fn at160 9223372036854775808 h)
  · simp at h
noncomputable def Q160 : Qt := qcons 100160 q160 Q93
theorem Q160_ok : QOk (frzR R) Q160 := qcons_ok t160 Q93_ok
/-! impl.SwapBytes -/
noncomputable def T94 (x0 : Int) : Pt (Int × Bool) := (.ok true (.ok ((k160 x0) && true) (.br (!(g160 x0)) (.ok true (.ok true (.ok true (.leaf (0, false))))) (.ok true (.ok true (.ok true (.leaf ((orI (shrI x0 8) (shlI (andI x0 255) 8)), true))))))))
noncomputable def g94 (x0 : Int) : Int × Bool := hid (T94 x0).val
noncomputable def k94 (x0 : Int) : Bool := hid (T94 x0).okv
noncomputable def n94 (x0 : Int) (r : Int × Bool) : SV × List Blk := ((.tup [(.one (.lit (.int .i64 r.1))), (.one (.lit (.bool r.2)))]), [])
theorem e94 (x0 : Int) : fnZ Q160 [] [] true [] 9223372036854775808 F94 [(.one (.lit (.int .i64 x0)))] = some ((T94 x0).map (n94 x0)) := by kernel_rfl
noncomputable def q94 : List SV → List Blk → Option ((SV × List Blk) × Bool)
  | [(.one (.lit (.int .i64 c0)))], [] => some (n94 c0 (g94 c0), k94 c0)
  | _, _ => none
theorem t94 (args : List SV) (hp : List Blk) (r : SV × List Blk) (h : q94 args hp = some (r, true)) : frzR R 100094 args hp = some r := by
  unfold q94 at h
  split at h
  · rename_i c0
    obtain ⟨hr, hk⟩ := Prod.mk.inj (Option.some.inj h)
    exact fnZ_c (f := 94) Q160_ok (loops_of (l := []) rfl trivial) (e94 c0) hr hk (fun r h => R_fn at94 9223372036854775808 h)
  · simp at h
noncomputable def Q94 : Qt := qcons 100094 q94 Q160
theorem Q94_ok : QOk (frzR R) Q94 := qcons_ok t94 Q160_ok
/-! spec.SwapBytes -/
noncomputable def T95 (x0 : Int) : Pt (Int × Bool) := (.ok true (.ok ((k181 2 x0) && true) (.br (!(g181 2 x0)) (.ok true (.ok true (.ok true (.leaf (0, false))))) (.ok true (.ok true (.ok true (.leaf ((orI (shrI x0 8) (shlI (andI x0 255) 8)), true))))))))
noncomputable def g95 (x0 : Int) : Int × Bool := hid (T95 x0).val
noncomputable def k95 (x0 : Int) : Bool := hid (T95 x0).okv
noncomputable def n95 (x0 : Int) (r : Int × Bool) : SV × List Blk := ((.tup [(.one (.lit (.int .i64 r.1))), (.one (.lit (.bool r.2)))]), [])
theorem e95 (x0 : Int) : fnZ Q94 [] [] true [] 9223372036854775808 F95 [(.one (.lit (.int .i64 x0)))] = some ((T95 x0).map (n95 x0)) := by kernel_rfl
noncomputable def q95 : List SV → List Blk → Option ((SV × List Blk) × Bool)
  | [(.one (.lit (.int .i64 c0)))], [] => some (n95 c0 (g95 c0), k95 c0)
  | _, _ => none
theorem t95 (args : List SV) (hp : List Blk) (r : SV × List Blk) (h : q95 args hp = some (r, true)) : frzR R 100095 args hp = some r := by
  unfold q95 at h
  split at h
  · rename_i c0
    obtain ⟨hr, hk⟩ := Prod.mk.inj (Option.some.inj h)
    exact fnZ_c (f := 95) Q94_ok (loops_of (l := []) rfl trivial) (e95 c0) hr hk (fun r h => R_fn at95 9223372036854775808 h)
  · simp at h
noncomputable def Q95 : Qt := qcons 100095 q95 Q94
theorem Q95_ok : QOk (frzR R) Q95 := qcons_ok t95 Q94_ok
/-! impl.SignedOf -/
noncomputable def T33 (x0 : Int) (x1 : Int) : Pt (Int × Bool) := (.ok true (.ok ((k151 x0 x1) && true) (.br (!(g151 x0 x1)) (.ok true (.ok true (.ok true (.leaf (0, false))))) (.ok ((k157 x0 x1) && true) (.ok true (.ok true (.leaf ((g157 x0 x1), true))))))))
noncomputable def g33 (x0 : Int) (x1 : Int) : Int × Bool := hid (T33 x0 x1).val
noncomputable def k33 (x0 : Int) (x1 : Int) : Bool := hid (T33 x0 x1).okv
noncomputable def n33 (x0 : Int) (x1 : Int) (r : Int × Bool) : SV × List Blk := ((.tup [(.one (.lit (.int .i64 r.1))), (.one (.lit (.bool r.2)))]), [])
theorem e33 (x0 : Int) (x1 : Int) : fnZ Q95 [] [] true [] 9223372036854775808 F33 [(.one (.lit (.int .i64 x0))), (.one (.lit (.int .i64 x1)))] = some ((T33 x0 x1).map (n33 x0 x1)) := by kernel_rfl
noncomputable def q33 : List SV → List Blk → Option ((SV × List Blk) × Bool)
  | [(.one (.lit (.int .i64 c0))), (.one (.lit (.int .i64 c1)))], [] => some (n33 c0 c1 (g33 c0 c1), k33 c0 c1)
  | _, _ => none
theorem t33 (args : List SV) (hp : List Blk) (r : SV × List Blk) (h : q33 args hp = some (r, true)) : frzR R 100033 args hp = some r := by
  unfold q33 at h
  split at h
  · rename_i c0 c1
    obtain ⟨hr, hk⟩ := Prod.mk.inj (Option.some.inj h)
    exact fnZ_c (f := 33) Q95_ok (loops_of (l := []) rfl trivial) (e33 c0 c1) hr hk (fun r h => R_fn at33 9223372036854775808 h)
  · simp at h
noncomputable def Q33 : Qt := qcons 100033 q33 Q95
theorem Q33_ok : QOk (frzR R) Q33 := qcons_ok t33 Q95_ok
/-! spec.DrawCmpFlags -/
noncomputable def y96_0 (x0 : List Row) : Gl1Cur × Int := (g148 (Gl1Cur.mk x0 0 0))
noncomputable def y96_1 (x0 : List Row) : Gl1Cur × Int := (g149 (y96_0 x0).2 (g141 33 (y96_0 x0).1).1)
noncomputable def T96 (x0 : List Row) : Pt (Int × Int × Int × Int) := (.ok true (.ok true (.ok ((k148 (Gl1Cur.mk x0 0 0)) && true) (.ok ((k141 33 (y96_0 x0).1) && ((k149 (y96_0 x0).2 (g141 33 (y96_0 x0).1).1) && ((k149 (y96_0 x0).2 (y96_1 x0).1) && true))) (.ok true (.ok true (.leaf ((y96_0 x0).2, (g141 33 (y96_0 x0).1).2, (y96_1 x0).2, (g149 (y96_0 x0).2 (y96_1 x0).1).2))))))))
noncomputable def g96 (x0 : List Row) : Int × Int × Int × Int := hid (T96 x0).val
noncomputable def k96 (x0 : List Row) : Bool := hid (T96 x0).okv
noncomputable def n96 (x0 : List Row) (r : Int × Int × Int × Int) : SV × List Blk := ((.tup [(.one (.lit (.int .i64 r.1))), (.one (.lit (.int .i64 r.2.1))), (.one (.lit (.int .i64 r.2.2.1))), (.one (.lit (.int .i64 r.2.2.2)))]), [])
theorem e96 (x0 : List Row) : fnZ Q33 [] [] true [] 9223372036854775808 F96 [(.one (.imm true 1 x0))] = some ((T96 x0).map (n96 x0)) := by kernel_rfl
noncomputable def q96 : List SV → List Blk → Option ((SV × List Blk) × Bool)
  | [(.one (.imm true 1 c0))], [] => some (n96 c0 (g96 c0), k96 c0)
  | _, _ => none
theorem t96 (args : List SV) (hp : List Blk) (r : SV × List Blk) (h : q96 args hp = some (r, true)) : frzR R 100096 args hp = some r := by
  unfold q96 at h
  split at h
  · rename_i c0
    obtain ⟨hr, hk⟩ := Prod.mk.inj (Option.some.inj h)
    exact fnZ_c (f := 96) Q33_ok (loops_of (l := []) rfl trivial) (e96 c0) hr hk (fun r h => R_fn at96 9223372036854775808 h)
  · simp at h
noncomputable def Q96 : Qt := qcons 100096 q96 Q33
theorem Q96_ok : QOk (frzR R) Q96 := qcons_ok t96 Q33_ok
/-! impl.areFlags -/
noncomputable def T183 (x0 : Int) : Pt (Bool) := (.ok true (.ok ((k142 x0 0 31) && true) (.ok true (.ok true (.leaf (g142 x0 0 31))))))
noncomputable def g183 (x0 : Int) : Bool := hid (T183 x0).val
noncomputable def k183 (x0 : Int) : Bool := hid (T183 x0).okv
noncomputable def n183 (x0 : Int) (r : Bool) : SV × List Blk := ((.one (.lit (.bool r))), [])
theorem e183 (x0 : Int) : fnZ Q96 [] [] true [] 9223372036854775808 F183 [(.one (.lit (.int .i64 x0)))] = some ((T183 x0).map (n183 x0)) := by kernel_rfl
noncomputable def q183 : List SV → List Blk → Option ((SV × List Blk) × Bool)
  | [(.one (.lit (.int .i64 c0)))], [] => some (n183 c0 (g183 c0), k183 c0)
  | _, _ => none
theorem t183 (args : List SV) (hp : List Blk) (r : SV × List Blk) (h : q183 args hp = some (r, true)) : frzR R 100183 args hp = some r := by
  unfold q183 at h
  split at h
  · rename_i c0
    obtain ⟨hr, hk⟩ := Prod.mk.inj (Option.some.inj h)
    exact fnZ_c (f := 183) Q96_ok (loops_of (l := []) rfl trivial) (e183 c0) hr hk (fun r h => R_fn at183 9223372036854775808 h)
  · simp at h
noncomputable def Q183 : Qt := qcons 100183 q183 Q96
theorem Q183_ok : QOk (frzR R) Q183 := qcons_ok t183 Q96_ok
/-! impl.subFlags -/
noncomputable def y155_0 (x0 : Int) (x1 : Int) (x2 : Int) (x3 : Int) : Int := (subI (subI (g157 x0 x2) (g157 x0 x3)) x1)
noncomputable def y155_1 (x0 : Int) (x1 : Int) (x2 : Int) (x3 : Int) : Int × Int := (g219 x0 (subI (subI x2 x3) x1) (y155_0 x0 x1 x2 x3))
noncomputable def T155 (x0 : Int) (x1 : Int) (x2 : Int) (x3 : Int) : Pt (Int × Int) := (.ok true (.ok ((k157 x0 x2) && ((k157 x0 x3) && ((k219 x0 (subI (subI x2 x3) x1) (y155_0 x0 x1 x2 x3)) && true))) (.ok true (.ok true (.leaf ((y155_1 x0 x1 x2 x3).1, (y155_1 x0 x1 x2 x3).2))))))
noncomputable def g155 (x0 : Int) (x1 : Int) (x2 : Int) (x3 : Int) : Int × Int := hid (T155 x0 x1 x2 x3).val
noncomputable def k155 (x0 : Int) (x1 : Int) (x2 : Int) (x3 : Int) : Bool := hid (T155 x0 x1 x2 x3).okv
noncomputable def n155 (x0 : Int) (x1 : Int) (x2 : Int) (x3 : Int) (r : Int × Int) : SV × List Blk := ((.tup [(.one (.lit (.int .i64 r.1))), (.one (.lit (.int .i64 r.2)))]), [])
theorem e155 (x0 : Int) (x1 : Int) (x2 : Int) (x3 : Int) : fnZ Q183 [] [] true [] 9223372036854775808 F155 [(.one (.lit (.int .i64 x0))), (.one (.lit (.int .i64 x1))), (.one (.lit (.int .i64 x2))), (.one (.lit (.int .i64 x3)))] = some ((T155 x0 x1 x2 x3).map (n155 x0 x1 x2 x3)) := by kernel_rfl
noncomputable def q155 : List SV → List Blk → Option ((SV × List Blk) × Bool)
  | [(.one (.lit (.int .i64 c0))), (.one (.lit (.int .i64 c1))), (.one (.lit (.int .i64 c2))), (.one (.lit (.int .i64 c3)))], [] => some (n155 c0 c1 c2 c3 (g155 c0 c1 c2 c3), k155 c0 c1 c2 c3)
  | _, _ => none
theorem t155 (args : List SV) (hp : List Blk) (r : SV × List Blk) (h : q155 args hp = some (r, true)) : frzR R 100155 args hp = some r := by
  unfold q155 at h
  split at h
  · rename_i c0 c1 c2 c3
    obtain ⟨hr, hk⟩ := Prod.mk.inj (Option.some.inj h)
    exact fnZ_c (f := 155) Q183_ok (loops_of (l := []) rfl trivial) (e155 c0 c1 c2 c3) hr hk (fun r h => R_fn at155 9223372036854775808 h)
  · simp at h
noncomputable def Q155 : Qt := qcons 100155 q155 Q183
theorem Q155_ok : QOk (frzR R) Q155 := qcons_ok t155 Q183_ok
/-! impl.cmpFlags -/
noncomputable def T184 (x0 : Int) (x1 : Int) (x2 : Int) (x3 : Int) : Pt (Int) := (.ok true (.ok ((k155 x0 0 x2 x3) && true) (.ok true (.ok true (.ok true (.leaf (orI (andNotI (g155 x0 0 x2 x3).2 16) (andI x1 16))))))))
noncomputable def g184 (x0 : Int) (x1 : Int) (x2 : Int) (x3 : Int) : Int := hid (T184 x0 x1 x2 x3).val
noncomputable def k184 (x0 : Int) (x1 : Int) (x2 : Int) (x3 : Int) : Bool := hid (T184 x0 x1 x2 x3).okv
noncomputable def n184 (x0 : Int) (x1 : Int) (x2 : Int) (x3 : Int) (r : Int) : SV × List Blk := ((.one (.lit (.int .i64 r))), [])
theorem e184 (x0 : Int) (x1 : Int) (x2 : Int) (x3 : Int) : fnZ Q155 [] [] true [] 9223372036854775808 F184 [(.one (.lit (.int .i64 x0))), (.one (.lit (.int .i64 x1))), (.one (.lit (.int .i64 x2))), (.one (.lit (.int .i64 x3)))] = some ((T184 x0 x1 x2 x3).map (n184 x0 x1 x2 x3)) := by kernel_rfl
noncomputable def q184 : List SV → List Blk → Option ((SV × List Blk) × Bool)
  | [(.one (.lit (.int .i64 c0))), (.one (.lit (.int .i64 c1))), (.one (.lit (.int .i64 c2))), (.one (.lit (.int .i64 c3)))], [] => some (n184 c0 c1 c2 c3 (g184 c0 c1 c2 c3), k184 c0 c1 c2 c3)
  | _, _ => none
theorem t184 (args : List SV) (hp : List Blk) (r : SV × List Blk) (h : q184 args hp = some (r, true)) : frzR R 100184 args hp = some r := by
  unfold q184 at h
  split at h
  · rename_i c0 c1 c2 c3
    obtain ⟨hr, hk⟩ := Prod.mk.inj (Option.some.inj h)
    exact fnZ_c (f := 184) Q155_ok (loops_of (l := []) rfl trivial) (e184 c0 c1 c2 c3) hr hk (fun r h => R_fn at184 9223372036854775808 h)
  · simp at h
noncomputable def Q184 : Qt := qcons 100184 q184 Q155
theorem Q184_ok : QOk (frzR R) Q184 := qcons_ok t184 Q155_ok
/-! impl.CmpFlags -/
noncomputable def y97_0 (x0 : Int) (x1 : Int) (x2 : Int) : Bool := (bif (!(g183 x1)) then true else (!(g151 x0 x2)))
noncomputable def T97 (x0 : Int) (x1 : Int) (x2 : Int) (x3 : Int) : Pt (Int × Bool) := (.ok true (.ok ((k183 x1) && ((((k151 x0 x2) && true) || (!(g183 x1))) && ((((k151 x0 x3) && true) || (y97_0 x0 x1 x2)) && true))) (.br (bif (y97_0 x0 x1 x2) then true else (!(g151 x0 x3))) (.ok true (.ok true (.ok true (.leaf (0, false))))) (.ok ((k184 x0 x1 x2 x3) && true) (.ok true (.ok true (.leaf ((g184 x0 x1 x2 x3), true))))))))
noncomputable def g97 (x0 : Int) (x1 : Int) (x2 : Int) (x3 : Int) : Int × Bool := hid (T97 x0 x1 x2 x3).val
noncomputable def k97 (x0 : Int) (x1 : Int) (x2 : Int) (x3 : Int) : Bool := hid (T97 x0 x1 x2 x3).okv
noncomputable def n97 (x0 : Int) (x1 : Int) (x2 : Int) (x3 : Int) (r : Int × Bool) : SV × List Blk := ((.tup [(.one (.lit (.int .i64 r.1))), (.one (.lit (.bool r.2)))]), [])
theorem e97 (x0 : Int) (x1 : Int) (x2 : Int) (x3 : Int) : fnZ Q184 [] [] true [] 9223372036854775808 F97 [(.one (.lit (.int .i64 x0))), (.one (.lit (.int .i64 x1))), (.one (.lit (.int .i64 x2))), (.one (.lit (.int .i64 x3)))] = some ((T97 x0 x1 x2 x3).map (n97 x0 x1 x2 x3)) := by kernel_rfl
noncomputable def q97 : List SV → List Blk → Option ((SV × List Blk) × Bool)
  | [(.one (.lit (.int .i64 c0))), (.one (.lit (.int .i64 c1))), (.one (.lit (.int .i64 c2))), (.one (.lit (.int .i64 c3)))], [] => some (n97 c0 c1 c2 c3 (g97 c0 c1 c2 c3), k97 c0 c1 c2 c3)
  | _, _ => none
theorem t97 (args : List SV) (hp : List Blk) (r : SV × List Blk) (h : q97 args hp = some (r, true)) : frzR R 100097 args hp = some r := by
  unfold q97 at h
  split at h
  · rename_i c0 c1 c2 c3
    obtain ⟨hr, hk⟩ := Prod.mk.inj (Option.some.inj h)
    exact fnZ_c (f := 97) Q184_ok (loops_of (l := []) rfl trivial) (e97 c0 c1 c2 c3) hr hk (fun r h => R_fn at97 9223372036854775808 h)
  · simp at h
noncomputable def Q97 : Qt := qcons 100097 q97 Q184
theorem Q97_ok : QOk (frzR R) Q97 := qcons_ok t97 Q184_ok
/-! spec.l1Flags -/
noncomputable def T185 (x0 : Int) : Pt (Bool) := (.ok true (.ok ((k144 x0 0 31) && true) (.ok true (.ok true (.leaf (g144 x0 0 31))))))
noncomputable def g185 (x0 : Int) : Bool := hid (T185 x0).val
noncomputable def k185 (x0 : Int) : Bool := hid (T185 x0).okv
noncomputable def n185 (x0 : Int) (r : Bool) : SV × List Blk := ((.one (.lit (.bool r))), [])
theorem e185 (x0 : Int) : fnZ Q97 [] [] true [] 9223372036854775808 F185 [(.one (.lit (.int .i64 x0)))] = some ((T185 x0).map (n185 x0)) := by kernel_rfl
noncomputable def q185 : List SV → List Blk → Option ((SV × List Blk) × Bool)
  | [(.one (.lit (.int .i64 c0)))], [] => some (n185 c0 (g185 c0), k185 c0)
  | _, _ => none
theorem t185 (args : List SV) (hp : List Blk) (r : SV × List Blk) (h : q185 args hp = some (r, true)) : frzR R 100185 args hp = some r := by
  unfold q185 at h
  split at h
  · rename_i c0
    obtain ⟨hr, hk⟩ := Prod.mk.inj (Option.some.inj h)
    exact fnZ_c (f := 185) Q97_ok (loops_of (l := []) rfl trivial) (e185 c0) hr hk (fun r h => R_fn at185 9223372036854775808 h)
  · simp at h
noncomputable def Q185 : Qt := qcons 100185 q185 Q97
theorem Q185_ok : QOk (frzR R) Q185 := qcons_ok t185 Q97_ok
/-! spec.l1Sub -/
noncomputable def y156_0 (x0 : Int) (x1 : Int) (x2 : Int) (x3 : Int) : Int := (andI (subI (subI x2 x3) x1) (subI (g220 x0) 1))
noncomputable def y156_1 (x0 : Int) (x1 : Int) (x2 : Int) (x3 : Int) : Bool := (neI (subI (subI (g182 x0 x2) (g182 x0 x3)) x1) (g182 x0 (y156_0 x0 x1 x2 x3)))
noncomputable def T156 (x0 : Int) (x1 : Int) (x2 : Int) (x3 : Int) : Pt (Int × Int) := (.ok true (.ok true (.ok ((k220 x0) && true) (.ok ((k182 x0 x2) && ((k182 x0 x3) && true)) (.ok ((k168 (ltI (subI (subI x2 x3) x1) 0) 17) && ((k182 x0 (y156_0 x0 x1 x2 x3)) && ((k168 (y156_1 x0 x1 x2 x3) 2) && ((k221 x0 (y156_0 x0 x1 x2 x3)) && true)))) (.ok true (.ok true (.leaf ((y156_0 x0 x1 x2 x3), (orI (orI (g168 (ltI (subI (subI x2 x3) x1) 0) 17) (g168 (y156_1 x0 x1 x2 x3) 2)) (g221 x0 (y156_0 x0 x1 x2 x3))))))))))))
noncomputable def g156 (x0 : Int) (x1 : Int) (x2 : Int) (x3 : Int) : Int × Int := hid (T156 x0 x1 x2 x3).val
noncomputable def k156 (x0 : Int) (x1 : Int) (x2 : Int) (x3 : Int) : Bool := hid (T156 x0 x1 x2 x3).okv
noncomputable def n156 (x0 : Int) (x1 : Int) (x2 : Int) (x3 : Int) (r : Int × Int) : SV × List Blk := ((.tup [(.one (.lit (.int .i64 r.1))), (.one (.lit (.int .i64 r.2)))]), [])
theorem e156 (x0 : Int) (x1 : Int) (x2 : Int) (x3 : Int) : fnZ Q185 [] [] true [] 9223372036854775808 F156 [(.one (.lit (.int .i64 x0))), (.one (.lit (.int .i64 x1))), (.one (.lit (.int .i64 x2))), (.one (.lit (.int .i64 x3)))] = some ((T156 x0 x1 x2 x3).map (n156 x0 x1 x2 x3)) := by kernel_rfl
noncomputable def q156 : List SV → List Blk → Option ((SV × List Blk) × Bool)
  | [(.one (.lit (.int .i64 c0))), (.one (.lit (.int .i64 c1))), (.one (.lit (.int .i64 c2))), (.one (.lit (.int .i64 c3)))], [] => some (n156 c0 c1 c2 c3 (g156 c0 c1 c2 c3), k156 c0 c1 c2 c3)
  | _, _ => none
theorem t156 (args : List SV) (hp : List Blk) (r : SV × List Blk) (h : q156 args hp = some (r, true)) : frzR R 100156 args hp = some r := by
  unfold q156 at h
  split at h
  · rename_i c0 c1 c2 c3
    obtain ⟨hr, hk⟩ := Prod.mk.inj (Option.some.inj h)
    exact fnZ_c (f := 156) Q185_ok (loops_of (l := []) rfl trivial) (e156 c0 c1 c2 c3) hr hk (fun r h => R_fn at156 9223372036854775808 h)
  · simp at h
noncomputable def Q156 : Qt := qcons 100156 q156 Q185
theorem Q156_ok : QOk (frzR R) Q156 := qcons_ok t156 Q185_ok
/-! spec.l1Cmp -/
noncomputable def T170 (x0 : Int) (x1 : Int) (x2 : Int) (x3 : Int) : Pt (Int) := (.ok true (.ok ((k156 x0 0 x2 x3) && true) (.ok true (.ok true (.ok true (.leaf (orI (andI (g156 x0 0 x2 x3).2 15) (andI x1 16))))))))
noncomputable def g170 (x0 : Int) (x1 : Int) (x2 : Int) (x3 : Int) : Int := hid (T170 x0 x1 x2 x3).val
noncomputable def k170 (x0 : Int) (x1 : Int) (x2 : Int) (x3 : Int) : Bool := hid (T170 x0 x1 x2 x3).okv
noncomputable def n170 (x0 : Int) (x1 : Int) (x2 : Int) (x3 : Int) (r : Int) : SV × List Blk := ((.one (.lit (.int .i64 r))), [])
theorem e170 (x0 : Int) (x1 : Int) (x2 : Int) (x3 : Int) : fnZ Q156 [] [] true [] 9223372036854775808 F170 [(.one (.lit (.int .i64 x0))), (.one (.lit (.int .i64 x1))), (.one (.lit (.int .i64 x2))), (.one (.lit (.int .i64 x3)))] = some ((T170 x0 x1 x2 x3).map (n170 x0 x1 x2 x3)) := by kernel_rfl
noncomputable def q170 : List SV → List Blk → Option ((SV × List Blk) × Bool)
  | [(.one (.lit (.int .i64 c0))), (.one (.lit (.int .i64 c1))), (.one (.lit (.int .i64 c2))), (.one (.lit (.int .i64 c3)))], [] => some (n170 c0 c1 c2 c3 (g170 c0 c1 c2 c3), k170 c0 c1 c2 c3)
  | _, _ => none
theorem t170 (args : List SV) (hp : List Blk) (r : SV × List Blk) (h : q170 args hp = some (r, true)) : frzR R 100170 args hp = some r := by
  unfold q170 at h
  split at h
  · rename_i c0 c1 c2 c3
    obtain ⟨hr, hk⟩ := Prod.mk.inj (Option.some.inj h)
    exact fnZ_c (f := 170) Q156_ok (loops_of (l := []) rfl trivial) (e170 c0 c1 c2 c3) hr hk (fun r h => R_fn at170 9223372036854775808 h)
  · simp at h
noncomputable def Q170 : Qt := qcons 100170 q170 Q156
theorem Q170_ok : QOk (frzR R) Q170 := qcons_ok t170 Q156_ok
/-! spec.CmpFlags -/
noncomputable def T98 (x0 : Int) (x1 : Int) (x2 : Int) (x3 : Int) : Pt (Int × Bool) := (.ok true (.ok ((k153 x0 0 x2 x3) && ((((k185 x1) && true) || (!(g153 x0 0 x2 x3))) && true)) (.br (bif (!(g153 x0 0 x2 x3)) then true else (!(g185 x1))) (.ok true (.ok true (.ok true (.leaf (0, false))))) (.ok ((k170 x0 x1 x2 x3) && true) (.ok true (.ok true (.leaf ((g170 x0 x1 x2 x3), true))))))))
noncomputable def g98 (x0 : Int) (x1 : Int) (x2 : Int) (x3 : Int) : Int × Bool := hid (T98 x0 x1 x2 x3).val
noncomputable def k98 (x0 : Int) (x1 : Int) (x2 : Int) (x3 : Int) : Bool := hid (T98 x0 x1 x2 x3).okv
noncomputable def n98 (x0 : Int) (x1 : Int) (x2 : Int) (x3 : Int) (r : Int × Bool) : SV × List Blk := ((.tup [(.one (.lit (.int .i64 r.1))), (.one (.lit (.bool r.2)))]), [])
theorem e98 (x0 : Int) (x1 : Int) (x2 : Int) (x3 : Int) : fnZ Q170 [] [] true [] 9223372036854775808 F98 [(.one (.lit (.int .i64 x0))), (.one (.lit (.int .i64 x1))), (.one (.lit (.int .i64 x2))), (.one (.lit (.int .i64 x3)))] = some ((T98 x0 x1 x2 x3).map (n98 x0 x1 x2 x3)) := by kernel_rfl
noncomputable def q98 : List SV → List Blk → Option ((SV × List Blk) × Bool)
  | [(.one (.lit (.int .i64 c0))), (.one (.lit (.int .i64 c1))), (.one (.lit (.int .i64 c2))), (.one (.lit (.int .i64 c3)))], [] => some (n98 c0 c1 c2 c3 (g98 c0 c1 c2 c3), k98 c0 c1 c2 c3)
  | _, _ => none
theorem t98 (args : List SV) (hp : List Blk) (r : SV × List Blk) (h : q98 args hp = some (r, true)) : frzR R 100098 args hp = some r := by
  unfold q98 at h
  split at h
  · rename_i c0 c1 c2 c3
    obtain ⟨hr, hk⟩ := Prod.mk.inj (Option.some.inj h)
    exact fnZ_c (f := 98) Q170_ok (loops_of (l := []) rfl trivial) (e98 c0 c1 c2 c3) hr hk (fun r h => R_fn at98 9223372036854775808 h)
  · simp at h
noncomputable def Q98 : Qt := qcons 100098 q98 Q170
theorem Q98_ok : QOk (frzR R) Q98 := qcons_ok t98 Q170_ok
/-! spec.DrawLogicFlags -/
noncomputable def y99_0 (x0 : List Row) : Gl1Cur × Int := (g148 (Gl1Cur.mk x0 0 0))
noncomputable def T99 (x0 : List Row) : Pt (Int × Int × Int) := (.ok true (.ok true (.ok ((k148 (Gl1Cur.mk x0 0 0)) && true) (.ok ((k141 33 (y99_0 x0).1) && ((k149 (y99_0 x0).2 (g141 33 (y99_0 x0).1).1) && true)) (.ok true (.ok true (.leaf ((y99_0 x0).2, (g141 33 (y99_0 x0).1).2, (g149 (y99_0 x0).2 (g141 33 (y99_0 x0).1).1).2))))))))
noncomputable def g99 (x0 : List Row) : Int × Int × Int := hid (T99 x0).val
noncomputable def k99 (x0 : List Row) : Bool := hid (T99 x0).okv
noncomputable def n99 (x0 : List Row) (r : Int × Int × Int) : SV × List Blk := ((.tup [(.one (.lit (.int .i64 r.1))), (.one (.lit (.int .i64 r.2.1))), (.one (.lit (.int .i64 r.2.2)))]), [])
theorem e99 (x0 : List Row) : fnZ Q98 [] [] true [] 9223372036854775808 F99 [(.one (.imm true 1 x0))] = some ((T99 x0).map (n99 x0)) := by kernel_rfl
noncomputable def q99 : List SV → List Blk → Option ((SV × List Blk) × Bool)
  | [(.one (.imm true 1 c0))], [] => some (n99 c0 (g99 c0), k99 c0)
  | _, _ => none
theorem t99 (args : List SV) (hp : List Blk) (r : SV × List Blk) (h : q99 args hp = some (r, true)) : frzR R 100099 args hp = some r := by
  unfold q99 at h
  split at h
  · rename_i c0
    obtain ⟨hr, hk⟩ := Prod.mk.inj (Option.some.inj h)
    exact fnZ_c (f := 99) Q98_ok (loops_of (l := []) rfl trivial) (e99 c0) hr hk (fun r h => R_fn at99 9223372036854775808 h)
  · simp at h
noncomputable def Q99 : Qt := qcons 100099 q99 Q98
theorem Q99_ok : QOk (frzR R) Q99 := qcons_ok t99 Q98_ok
/-! impl.logicFlags -/
noncomputable def T186 (x0 : Int) (x1 : Int) (x2 : Int) : Pt (Int) := (.ok true (.ok ((k225 x0 x2) && true) (.ok true (.ok true (.leaf (orI (andI x1 16) (g225 x0 x2)))))))
noncomputable def g186 (x0 : Int) (x1 : Int) (x2 : Int) : Int := hid (T186 x0 x1 x2).val
noncomputable def k186 (x0 : Int) (x1 : Int) (x2 : Int) : Bool := hid (T186 x0 x1 x2).okv
noncomputable def n186 (x0 : Int) (x1 : Int) (x2 : Int) (r : Int) : SV × List Blk := ((.one (.lit (.int .i64 r))), [])
theorem e186 (x0 : Int) (x1 : Int) (x2 : Int) : fnZ Q99 [] [] true [] 9223372036854775808 F186 [(.one (.lit (.int .i64 x0))), (.one (.lit (.int .i64 x1))), (.one (.lit (.int .i64 x2)))] = some ((T186 x0 x1 x2).map (n186 x0 x1 x2)) := by kernel_rfl
noncomputable def q186 : List SV → List Blk → Option ((SV × List Blk) × Bool)
  | [(.one (.lit (.int .i64 c0))), (.one (.lit (.int .i64 c1))), (.one (.lit (.int .i64 c2)))], [] => some (n186 c0 c1 c2 (g186 c0 c1 c2), k186 c0 c1 c2)
  | _, _ => none
theorem t186 (args : List SV) (hp : List Blk) (r : SV × List Blk) (h : q186 args hp = some (r, true)) : frzR R 100186 args hp = some r := by
  unfold q186 at h
  split at h
  · rename_i c0 c1 c2
    obtain ⟨hr, hk⟩ := Prod.mk.inj (Option.some.inj h)
    exact fnZ_c (f := 186) Q99_ok (loops_of (l := []) rfl trivial) (e186 c0 c1 c2) hr hk (fun r h => R_fn at186 9223372036854775808 h)
  · simp at h
noncomputable def Q186 : Qt := qcons 100186 q186 Q99
theorem Q186_ok : QOk (frzR R) Q186 := qcons_ok t186 Q99_ok
/-! impl.LogicFlags -/
noncomputable def T100 (x0 : Int) (x1 : Int) (x2 : Int) : Pt (Int × Bool) := (.ok true (.ok ((k183 x1) && ((((k151 x0 x2) && true) || (!(g183 x1))) && true)) (.br (bif (!(g183 x1)) then true else (!(g151 x0 x2))) (.ok true (.ok true (.ok true (.leaf (0, false))))) (.ok ((k186 x0 x1 x2) && true) (.ok true (.ok true (.leaf ((g186 x0 x1 x2), true))))))))
noncomputable def g100 (x0 : Int) (x1 : Int) (x2 : Int) : Int × Bool := hid (T100 x0 x1 x2).val
noncomputable def k100 (x0 : Int) (x1 : Int) (x2 : Int) : Bool := hid (T100 x0 x1 x2).okv
noncomputable def n100 (x0 : Int) (x1 : Int) (x2 : Int) (r : Int × Bool) : SV × List Blk := ((.tup [(.one (.lit (.int .i64 r.1))), (.one (.lit (.bool r.2)))]), [])
theorem e100 (x0 : Int) (x1 : Int) (x2 : Int) : fnZ Q186 [] [] true [] 9223372036854775808 F100 [(.one (.lit (.int .i64 x0))), (.one (.lit (.int .i64 x1))), (.one (.lit (.int .i64 x2)))] = some ((T100 x0 x1 x2).map (n100 x0 x1 x2)) := by kernel_rfl
noncomputable def q100 : List SV → List Blk → Option ((SV × List Blk) × Bool)
  | [(.one (.lit (.int .i64 c0))), (.one (.lit (.int .i64 c1))), (.one (.lit (.int .i64 c2)))], [] => some (n100 c0 c1 c2 (g100 c0 c1 c2), k100 c0 c1 c2)
  | _, _ => none
theorem t100 (args : List SV) (hp : List Blk) (r : SV × List Blk) (h : q100 args hp = some (r, true)) : frzR R 100100 args hp = some r := by
  unfold q100 at h
  split at h
  · rename_i c0 c1 c2
    obtain ⟨hr, hk⟩ := Prod.mk.inj (Option.some.inj h)
    exact fnZ_c (f := 100) Q186_ok (loops_of (l := []) rfl trivial) (e100 c0 c1 c2) hr hk (fun r h => R_fn at100 9223372036854775808 h)
  · simp at h
noncomputable def Q100 : Qt := qcons 100100 q100 Q186
theorem Q100_ok : QOk (frzR R) Q100 := qcons_ok t100 Q186_ok
/-! spec.l1Logic -/
noncomputable def T187 (x0 : Int) (x1 : Int) (x2 : Int) : Pt (Int) := (.ok true (.ok ((k221 x0 x2) && true) (.ok true (.ok true (.leaf (orI (andI x1 16) (g221 x0 x2)))))))
noncomputable def g187 (x0 : Int) (x1 : Int) (x2 : Int) : Int := hid (T187 x0 x1 x2).val
noncomputable def k187 (x0 : Int) (x1 : Int) (x2 : Int) : Bool := hid (T187 x0 x1 x2).okv
noncomputable def n187 (x0 : Int) (x1 : Int) (x2 : Int) (r : Int) : SV × List Blk := ((.one (.lit (.int .i64 r))), [])
theorem e187 (x0 : Int) (x1 : Int) (x2 : Int) : fnZ Q100 [] [] true [] 9223372036854775808 F187 [(.one (.lit (.int .i64 x0))), (.one (.lit (.int .i64 x1))), (.one (.lit (.int .i64 x2)))] = some ((T187 x0 x1 x2).map (n187 x0 x1 x2)) := by kernel_rfl
noncomputable def q187 : List SV → List Blk → Option ((SV × List Blk) × Bool)
  | [(.one (.lit (.int .i64 c0))), (.one (.lit (.int .i64 c1))), (.one (.lit (.int .i64 c2)))], [] => some (n187 c0 c1 c2 (g187 c0 c1 c2), k187 c0 c1 c2)
  | _, _ => none
theorem t187 (args : List SV) (hp : List Blk) (r : SV × List Blk) (h : q187 args hp = some (r, true)) : frzR R 100187 args hp = some r := by
  unfold q187 at h
  split at h
  · rename_i c0 c1 c2
    obtain ⟨hr, hk⟩ := Prod.mk.inj (Option.some.inj h)
    exact fnZ_c (f := 187) Q100_ok (loops_of (l := []) rfl trivial) (e187 c0 c1 c2) hr hk (fun r h => R_fn at187 9223372036854775808 h)
  · simp at h
noncomputable def Q187 : Qt := qcons 100187 q187 Q100
theorem Q187_ok : QOk (frzR R) Q187 := qcons_ok t187 Q100_ok
/-! spec.LogicFlags -/
noncomputable def T101 (x0 : Int) (x1 : Int) (x2 : Int) : Pt (Int × Bool) := (.ok true (.ok ((k181 x0 x2) && ((((k185 x1) && true) || (!(g181 x0 x2))) && true)) (.br (bif (!(g181 x0 x2)) then true else (!(g185 x1))) (.ok true (.ok true (.ok true (.leaf (0, false))))) (.ok ((k187 x0 x1 x2) && true) (.ok true (.ok true (.leaf ((g187 x0 x1 x2), true))))))))
noncomputable def g101 (x0 : Int) (x1 : Int) (x2 : Int) : Int × Bool := hid (T101 x0 x1 x2).val
noncomputable def k101 (x0 : Int) (x1 : Int) (x2 : Int) : Bool := hid (T101 x0 x1 x2).okv
noncomputable def n101 (x0 : Int) (x1 : Int) (x2 : Int) (r : Int × Bool) : SV × List Blk := ((.tup [(.one (.lit (.int .i64 r.1))), (.one (.lit (.bool r.2)))]), [])
theorem e101 (x0 : Int) (x1 : Int) (x2 : Int) : fnZ Q187 [] [] true [] 9223372036854775808 F101 [(.one (.lit (.int .i64 x0))), (.one (.lit (.int .i64 x1))), (.one (.lit (.int .i64 x2)))] = some ((T101 x0 x1 x2).map (n101 x0 x1 x2)) := by kernel_rfl
noncomputable def q101 : List SV → List Blk → Option ((SV × List Blk) × Bool)
  | [(.one (.lit (.int .i64 c0))), (.one (.lit (.int .i64 c1))), (.one (.lit (.int .i64 c2)))], [] => some (n101 c0 c1 c2 (g101 c0 c1 c2), k101 c0 c1 c2)
  | _, _ => none
theorem t101 (args : List SV) (hp : List Blk) (r : SV × List Blk) (h : q101 args hp = some (r, true)) : frzR R 100101 args hp = some r := by
  unfold q101 at h
  split at h
  · rename_i c0 c1 c2
    obtain ⟨hr, hk⟩ := Prod.mk.inj (Option.some.inj h)
    exact fnZ_c (f := 101) Q187_ok (loops_of (l := []) rfl trivial) (e101 c0 c1 c2) hr hk (fun r h => R_fn at101 9223372036854775808 h)
  · simp at h
noncomputable def Q101 : Qt := qcons 100101 q101 Q187
theorem Q101_ok : QOk (frzR R) Q101 := qcons_ok t101 Q187_ok
/-! laws.FnWords -/
structure V11_0 where
  mk ::
  (s1 : List Row)
  (s5 : Int)
  (s6 : List Row)
  (s7 : List Row)
  (s8 : List Row)
  (s9 : Int)
  (s14 : Int)
  (s15 : Bool)
  (s93 : Int)
  (s94 : Int)
noncomputable def y11_0_l_0 (v : V11_0) : Int := (addI (addI (intAt v.s6 (Int.toNat v.s94) 0) (intAt v.s7 (Int.toNat v.s94) 0)) v.s14)
noncomputable def N11_0 (v : V11_0) : Pt (Option V11_0) := (.ok true (.br (ltI v.s94 v.s93) (.ok true (.ok ((inRow [.int .i64] v.s6 v.s94) && ((inRow [.int .i64] v.s7 v.s94) && true)) (.ok true (.ok ((k32 v.s5) && true) (.ok true (.ok ((inRow [.int .i64] v.s8 v.s94) && ((k32 v.s5) && ((neI (g32 v.s5) 0) && true))) (.br (neI (intAt v.s8 (Int.toNat v.s94) 0) (remI (y11_0_l_0 v) (g32 v.s5))) (.ok true (.leaf none)) (.ok ((((inRow [.int .i64] v.s8 v.s94) && true) || (!v.s15)) && true) (.ok true (.ok true (.leaf (some { v with s14 := (bif (geI (y11_0_l_0 v) (g32 v.s5)) then 1 else 0), s15 := (bif v.s15 then (eqI (intAt v.s8 (Int.toNat v.s94) 0) 0) else false), s94 := (addI v.s94 1) })))))))))))) (.leaf none)))
noncomputable def s11_0 (v : V11_0) : St := ⟨[(1, (.one (.imm true 1 v.s1))), (5, (.one (.lit (.int .i64 v.s5)))), (6, (.one (.imm true 1 v.s6))), (7, (.one (.imm true 1 v.s7))), (8, (.one (.imm true 1 v.s8))), (9, (.one (.lit (.int .i64 v.s9)))), (14, (.one (.lit (.int .i64 v.s14)))), (15, (.one (.lit (.bool v.s15)))), (93, (.one (.lit (.int .i64 v.s93)))), (94, (.one (.lit (.int .i64 v.s94))))], []⟩
def u11_0 : St → Option (V11_0 × Bool)
  | ⟨[(1, (.one (.imm true 1 c0))), (5, (.one (.lit (.int .i64 c1)))), (6, (.one (.imm true 1 c2))), (7, (.one (.imm true 1 c3))), (8, (.one (.imm true 1 c4))), (9, (.one (.lit (.int .i64 c5)))), (14, (.one (.lit (.int .i64 c6)))), (15, (.one (.lit (.bool c7)))), (93, (.one (.lit (.int .i64 c8)))), (94, (.one (.lit (.int .i64 c9))))], []⟩ => some ((V11_0.mk c0 c1 c2 c3 c4 c5 c6 c7 c8 c9), true)
  | _ => none
theorem hN11_0 (v : V11_0) : ((evp Q32 [(99, [.int .i64]), (100, [.int .i64]), (103, [.int .i64]), (104, [.int .i64]), (114, [.int .i64]), (115, [.int .i64]), (125, [.int .i64]), (126, [.int .i64])] [] true [] 0 9223372036854775808 F11b0 (s11_0 v)).bind (stpT true false 0 [1, 5, 6, 7, 8, 9, 14, 15, 93, 94])) = some ((N11_0 v).map (Option.map s11_0)) := by kernel_rfl
theorem hu11_0 (σ : St) (v : V11_0) (h : u11_0 σ = some (v, true)) : σ = s11_0 v := by
  unfold u11_0 at h
  split at h
  · obtain ⟨hr, hk⟩ := Prod.mk.inj (Option.some.inj h)
    rw [← hr]
    rfl
  · simp at h
theorem lt11_0 : TellsP (lqP true false 0 [1, 5, 6, 7, 8, 9, 14, 15, 93, 94] (evp Q32 [(99, [.int .i64]), (100, [.int .i64]), (103, [.int .i64]), (104, [.int .i64]), (114, [.int .i64]), (115, [.int .i64]), (125, [.int .i64]), (126, [.int .i64])] [] true [] 0 9223372036854775808 F11b0) u11_0 s11_0 N11_0 9223372036854775808) (evc R 0 9223372036854775808 (.loop [1, 5, 6, 7, 8, 9, 14, 15, 93, 94] F11b0)) := lqP_tells (evp_tells Q32_ok (loops_of (l := []) (by kernel_rfl) trivial)) hu11_0 hN11_0
noncomputable def lq11_0 : Lp := (95, lqP true false 0 [1, 5, 6, 7, 8, 9, 14, 15, 93, 94] (evp Q32 [(99, [.int .i64]), (100, [.int .i64]), (103, [.int .i64]), (104, [.int .i64]), (114, [.int .i64]), (115, [.int .i64]), (125, [.int .i64]), (126, [.int .i64])] [] true [] 0 9223372036854775808 F11b0) u11_0 s11_0 N11_0 9223372036854775808) :: []
noncomputable def w11_0 (v : V11_0) : V11_0 := (hid (loopV N11_0 9223372036854775808 v)).getD v
noncomputable def i11_0 (v : V11_0) : Bool := (hid (loopV N11_0 9223372036854775808 v)).isSome
noncomputable def y11_0 (x0 : List Row) : List Row × Int × Bool := (g88 (g87 x0).1 (g87 x0).2.1 (g87 x0).2.2)
noncomputable def y11_1 (x0 : List Row) : List Row × Int × Bool := (g89 (g87 x0).1 (g87 x0).2.1 (g87 x0).2.2)
noncomputable def y11_2 (x0 : List Row) : Bool := (bif (!(eqB (y11_0 x0).2.2 (y11_1 x0).2.2)) then true else (neI (y11_0 x0).2.1 (y11_1 x0).2.1))
noncomputable def y11_3 (x0 : List Row) (x1 : List Row) : V11_0 := (w11_0 (V11_0.mk x1 (g87 x0).1 (g87 x0).2.1 (g87 x0).2.2 (y11_0 x0).1 (y11_0 x0).2.1 0 true (lenI (y11_0 x0).1) 0))
noncomputable def y11_4 (x0 : List Row) (x1 : List Row) : Int × Bool := (g91 (g90 (y11_3 x0 x1).s1))
noncomputable def y11_5 (x0 : List Row) (x1 : List Row) : Int × Bool := (g92 (g90 (y11_3 x0 x1).s1))
noncomputable def y11_6 (x0 : List Row) (x1 : List Row) : Int × Bool := (g94 (g93 (y11_3 x0 x1).s1))
noncomputable def y11_7 (x0 : List Row) (x1 : List Row) : Int × Bool := (g95 (g93 (y11_3 x0 x1).s1))
noncomputable def y11_8 (x0 : List Row) (x1 : List Row) : Int × Bool := (g33 1 (g90 (y11_3 x0 x1).s1))
noncomputable def y11_9 (x0 : List Row) (x1 : List Row) : Bool := (bif (!(g94 (y11_6 x0 x1).1).2) then true else (neI (g94 (y11_6 x0 x1).1).1 (g93 (y11_3 x0 x1).s1)))
noncomputable def y11_10 (x0 : List Row) (x1 : List Row) : Bool := ((k97 (g96 (y11_3 x0 x1).s1).1 (g96 (y11_3 x0 x1).s1).2.1 (g96 (y11_3 x0 x1).s1).2.2.1 (g96 (y11_3 x0 x1).s1).2.2.2) && true)
noncomputable def y11_11 (x0 : List Row) (x1 : List Row) : Bool := ((k98 (g96 (y11_3 x0 x1).s1).1 (g96 (y11_3 x0 x1).s1).2.1 (g96 (y11_3 x0 x1).s1).2.2.1 (g96 (y11_3 x0 x1).s1).2.2.2) && true)
noncomputable def y11_12 (x0 : List Row) (x1 : List Row) : Bool := ((k100 (g99 (y11_3 x0 x1).s1).1 (g99 (y11_3 x0 x1).s1).2.1 (g99 (y11_3 x0 x1).s1).2.2) && true)
noncomputable def y11_13 (x0 : List Row) (x1 : List Row) : Bool := ((k101 (g99 (y11_3 x0 x1).s1).1 (g99 (y11_3 x0 x1).s1).2.1 (g99 (y11_3 x0 x1).s1).2.2) && true)
noncomputable def y11_14 (x0 : List Row) (x1 : List Row) : Int × Bool := (g97 (g96 (y11_3 x0 x1).s1).1 (g96 (y11_3 x0 x1).s1).2.1 (g96 (y11_3 x0 x1).s1).2.2.1 (g96 (y11_3 x0 x1).s1).2.2.2)
noncomputable def y11_15 (x0 : List Row) (x1 : List Row) : Int × Bool := (g98 (g96 (y11_3 x0 x1).s1).1 (g96 (y11_3 x0 x1).s1).2.1 (g96 (y11_3 x0 x1).s1).2.2.1 (g96 (y11_3 x0 x1).s1).2.2.2)
noncomputable def y11_16 (x0 : List Row) (x1 : List Row) : Int × Bool := (g100 (g99 (y11_3 x0 x1).s1).1 (g99 (y11_3 x0 x1).s1).2.1 (g99 (y11_3 x0 x1).s1).2.2)
noncomputable def y11_17 (x0 : List Row) (x1 : List Row) : Int × Bool := (g101 (g99 (y11_3 x0 x1).s1).1 (g99 (y11_3 x0 x1).s1).2.1 (g99 (y11_3 x0 x1).s1).2.2)
noncomputable def y11_18 (x0 : List Row) (x1 : List Row) : Bool := (bif (bif (bif (!(eqB (y11_14 x0 x1).2 (y11_15 x0 x1).2)) then true else (neI (y11_14 x0 x1).1 (y11_15 x0 x1).1)) then true else (!(eqB (y11_16 x0 x1).2 (y11_17 x0 x1).2))) then true else (neI (y11_16 x0 x1).1 (y11_17 x0 x1).1))
noncomputable def y11_19 (x0 : List Row) (x1 : List Row) : Bool := (bif (bif (!(y11_14 x0 x1).2) then true else (bif (eqI (andI (y11_14 x0 x1).1 16) (andI (g96 (y11_3 x0 x1).s1).2.1 16)) then (eqB (neI (andI (y11_14 x0 x1).1 4) 0) (eqI (g96 (y11_3 x0 x1).s1).2.2.1 (g96 (y11_3 x0 x1).s1).2.2.2)) else false)) then (bif (!(y11_16 x0 x1).2) then true else (bif (eqI (andI (y11_16 x0 x1).1 3) 0) then (eqI (andI (y11_16 x0 x1).1 16) (andI (g99 (y11_3 x0 x1).s1).2.1 16)) else false)) else false)
noncomputable def y11_20 (x1 : List Row) : Bool := (bif (!(g94 (g94 (g93 x1)).1).2) then true else (neI (g94 (g94 (g93 x1)).1).1 (g93 x1)))
noncomputable def y11_21 (x1 : List Row) : Bool := ((k97 (g96 x1).1 (g96 x1).2.1 (g96 x1).2.2.1 (g96 x1).2.2.2) && true)
noncomputable def y11_22 (x1 : List Row) : Bool := ((k98 (g96 x1).1 (g96 x1).2.1 (g96 x1).2.2.1 (g96 x1).2.2.2) && true)
noncomputable def y11_23 (x1 : List Row) : Bool := ((k100 (g99 x1).1 (g99 x1).2.1 (g99 x1).2.2) && true)
noncomputable def y11_24 (x1 : List Row) : Bool := ((k101 (g99 x1).1 (g99 x1).2.1 (g99 x1).2.2) && true)
noncomputable def y11_25 (x1 : List Row) : Int × Bool := (g97 (g96 x1).1 (g96 x1).2.1 (g96 x1).2.2.1 (g96 x1).2.2.2)
noncomputable def y11_26 (x1 : List Row) : Int × Bool := (g98 (g96 x1).1 (g96 x1).2.1 (g96 x1).2.2.1 (g96 x1).2.2.2)
noncomputable def y11_27 (x1 : List Row) : Int × Bool := (g100 (g99 x1).1 (g99 x1).2.1 (g99 x1).2.2)
noncomputable def y11_28 (x1 : List Row) : Int × Bool := (g101 (g99 x1).1 (g99 x1).2.1 (g99 x1).2.2)
noncomputable def y11_29 (x1 : List Row) : Bool := (bif (bif (bif (!(eqB (y11_25 x1).2 (y11_26 x1).2)) then true else (neI (y11_25 x1).1 (y11_26 x1).1)) then true else (!(eqB (y11_27 x1).2 (y11_28 x1).2))) then true else (neI (y11_27 x1).1 (y11_28 x1).1))
noncomputable def y11_30 (x1 : List Row) : Bool := (bif (bif (!(y11_25 x1).2) then true else (bif (eqI (andI (y11_25 x1).1 16) (andI (g96 x1).2.1 16)) then (eqB (neI (andI (y11_25 x1).1 4) 0) (eqI (g96 x1).2.2.1 (g96 x1).2.2.2)) else false)) then (bif (!(y11_27 x1).2) then true else (bif (eqI (andI (y11_27 x1).1 3) 0) then (eqI (andI (y11_27 x1).1 16) (andI (g99 x1).2.1 16)) else false)) else false)
noncomputable def T11 (x0 : List Row) (x1 : List Row) : Pt (Bool) := (.ok true (.ok true (.br (gtI (addI (lenI x0) (lenI x1)) 1048576) (.ok true (.ok true (.leaf true))) (.ok ((k87 x0) && true) (.ok ((k88 (g87 x0).1 (g87 x0).2.1 (g87 x0).2.2) && true) (.ok ((k89 (g87 x0).1 (g87 x0).2.1 (g87 x0).2.2) && true) (.ok ((((k47 (y11_0 x0).1 (y11_1 x0).1) && true) || (y11_2 x0)) && true) (.br (bif (y11_2 x0) then true else (!(g47 (y11_0 x0).1 (y11_1 x0).1))) (.ok true (.ok true (.leaf false))) (.ok true (.br (y11_0 x0).2.2 (.ok true (.ok true (.ok true (.ok true (.ok true (.ok (i11_0 (V11_0.mk x1 (g87 x0).1 (g87 x0).2.1 (g87 x0).2.2 (y11_0 x0).1 (y11_0 x0).2.1 0 true (lenI (y11_0 x0).1) 0)) (.br (ltI (y11_3 x0 x1).s94 (y11_3 x0 x1).s93) (.ok true (.leaf false)) (.ok true (.br (bif (neI (y11_3 x0 x1).s14 (andI (y11_3 x0 x1).s9 1)) then true else (!(eqB (y11_3 x0 x1).s15 (neI (andI (y11_3 x0 x1).s9 4) 0)))) (.ok true (.ok true (.leaf false))) (.ok ((k90 (y11_3 x0 x1).s1) && true) (.ok ((k91 (g90 (y11_3 x0 x1).s1)) && true) (.ok ((k92 (g90 (y11_3 x0 x1).s1)) && true) (.ok ((k93 (y11_3 x0 x1).s1) && true) (.ok ((k94 (g93 (y11_3 x0 x1).s1)) && true) (.ok ((k95 (g93 (y11_3 x0 x1).s1)) && true) (.ok true (.br (bif (bif (bif (!(eqB (y11_4 x0 x1).2 (y11_5 x0 x1).2)) then true else (neI (y11_4 x0 x1).1 (y11_5 x0 x1).1)) then true else (!(eqB (y11_6 x0 x1).2 (y11_7 x0 x1).2))) then true else (neI (y11_6 x0 x1).1 (y11_7 x0 x1).1)) (.ok true (.ok true (.leaf false))) (.ok true (.br (y11_4 x0 x1).2 (.ok ((k33 1 (g90 (y11_3 x0 x1).s1)) && true) (.ok ((k33 2 (y11_4 x0 x1).1) && true) (.ok true (.br (bif (bif (!(y11_8 x0 x1).2) then true else (!(g33 2 (y11_4 x0 x1).1).2)) then true else (neI (y11_8 x0 x1).1 (g33 2 (y11_4 x0 x1).1).1)) (.ok true (.ok true (.leaf false))) (.ok true (.br (y11_6 x0 x1).2 (.ok ((k94 (y11_6 x0 x1).1) && true) (.ok true (.br (y11_9 x0 x1) (.ok true (.ok true (.leaf false))) (.ok ((k96 (y11_3 x0 x1).s1) && true) (.ok (y11_10 x0 x1) (.ok (y11_11 x0 x1) (.ok ((k99 (y11_3 x0 x1).s1) && true) (.ok (y11_12 x0 x1) (.ok (y11_13 x0 x1) (.ok true (.br (y11_18 x0 x1) (.ok true (.ok true (.leaf false))) (.ok true (.ok true (.leaf (y11_19 x0 x1))))))))))))))) (.ok ((k96 (y11_3 x0 x1).s1) && true) (.ok (y11_10 x0 x1) (.ok (y11_11 x0 x1) (.ok ((k99 (y11_3 x0 x1).s1) && true) (.ok (y11_12 x0 x1) (.ok (y11_13 x0 x1) (.ok true (.br (y11_18 x0 x1) (.ok true (.ok true (.leaf false))) (.ok true (.ok true (.leaf (y11_19 x0 x1)))))))))))))))))) (.ok true (.br (y11_6 x0 x1).2 (.ok ((k94 (y11_6 x0 x1).1) && true) (.ok true (.br (y11_9 x0 x1) (.ok true (.ok true (.leaf false))) (.ok ((k96 (y11_3 x0 x1).s1) && true) (.ok (y11_10 x0 x1) (.ok (y11_11 x0 x1) (.ok ((k99 (y11_3 x0 x1).s1) && true) (.ok (y11_12 x0 x1) (.ok (y11_13 x0 x1) (.ok true (.br (y11_18 x0 x1) (.ok true (.ok true (.leaf false))) (.ok true (.ok true (.leaf (y11_19 x0 x1))))))))))))))) (.ok ((k96 (y11_3 x0 x1).s1) && true) (.ok (y11_10 x0 x1) (.ok (y11_11 x0 x1) (.ok ((k99 (y11_3 x0 x1).s1) && true) (.ok (y11_12 x0 x1) (.ok (y11_13 x0 x1) (.ok true (.br (y11_18 x0 x1) (.ok true (.ok true (.leaf false))) (.ok true (.ok true (.leaf (y11_19 x0 x1))))))))))))))))))))))))))))))))) (.ok ((k90 x1) && true) (.ok ((k91 (g90 x1)) && true) (.ok ((k92 (g90 x1)) && true) (.ok ((k93 x1) && true) (.ok ((k94 (g93 x1)) && true) (.ok ((k95 (g93 x1)) && true) (.ok true (.br (bif (bif (bif (!(eqB (g91 (g90 x1)).2 (g92 (g90 x1)).2)) then true else (neI (g91 (g90 x1)).1 (g92 (g90 x1)).1)) then true else (!(eqB (g94 (g93 x1)).2 (g95 (g93 x1)).2))) then true else (neI (g94 (g93 x1)).1 (g95 (g93 x1)).1)) (.ok true (.ok true (.leaf false))) (.ok true (.br (g91 (g90 x1)).2 (.ok ((k33 1 (g90 x1)) && true) (.ok ((k33 2 (g91 (g90 x1)).1) && true) (.ok true (.br (bif (bif (!(g33 1 (g90 x1)).2) then true else (!(g33 2 (g91 (g90 x1)).1).2)) then true else (neI (g33 1 (g90 x1)).1 (g33 2 (g91 (g90 x1)).1).1)) (.ok true (.ok true (.leaf false))) (.ok true (.br (g94 (g93 x1)).2 (.ok ((k94 (g94 (g93 x1)).1) && true) (.ok true (.br (y11_20 x1) (.ok true (.ok true (.leaf false))) (.ok ((k96 x1) && true) (.ok (y11_21 x1) (.ok (y11_22 x1) (.ok ((k99 x1) && true) (.ok (y11_23 x1) (.ok (y11_24 x1) (.ok true (.br (y11_29 x1) (.ok true (.ok true (.leaf false))) (.ok true (.ok true (.leaf (y11_30 x1))))))))))))))) (.ok ((k96 x1) && true) (.ok (y11_21 x1) (.ok (y11_22 x1) (.ok ((k99 x1) && true) (.ok (y11_23 x1) (.ok (y11_24 x1) (.ok true (.br (y11_29 x1) (.ok true (.ok true (.leaf false))) (.ok true (.ok true (.leaf (y11_30 x1)))))))))))))))))) (.ok true (.br (g94 (g93 x1)).2 (.ok ((k94 (g94 (g93 x1)).1) && true) (.ok true (.br (y11_20 x1) (.ok true (.ok true (.leaf false))) (.ok ((k96 x1) && true) (.ok (y11_21 x1) (.ok (y11_22 x1) (.ok ((k99 x1) && true) (.ok (y11_23 x1) (.ok (y11_24 x1) (.ok true (.br (y11_29 x1) (.ok true (.ok true (.leaf false))) (.ok true (.ok true (.leaf (y11_30 x1))))))))))))))) (.ok ((k96 x1) && true) (.ok (y11_21 x1) (.ok (y11_22 x1) (.ok ((k99 x1) && true) (.ok (y11_23 x1) (.ok (y11_24 x1) (.ok true (.br (y11_29 x1) (.ok true (.ok true (.leaf false))) (.ok true (.ok true (.leaf (y11_30 x1))))))))))))))))))))))))))))))))))
noncomputable def g11 (x0 : List Row) (x1 : List Row) : Bool := hid (T11 x0 x1).val
noncomputable def k11 (x0 : List Row) (x1 : List Row) : Bool := hid (T11 x0 x1).okv
noncomputable def n11 (x0 : List Row) (x1 : List Row) (r : Bool) : SV × List Blk := ((.one (.lit (.bool r))), [])
theorem e11 (x0 : List Row) (x1 : List Row) : fnP Q101 [(99, [.int .i64]), (100, [.int .i64]), (103, [.int .i64]), (104, [.int .i64]), (114, [.int .i64]), (115, [.int .i64]), (125, [.int .i64]), (126, [.int .i64])] [] true lq11_0 9223372036854775808 F11 [(.one (.imm true 1 x0)), (.one (.imm true 1 x1))] [] = some ((T11 x0 x1).map (n11 x0 x1)) := by kernel_rfl
noncomputable def q11 : List SV → List Blk → Option ((SV × List Blk) × Bool)
  | [(.one (.imm true 1 c0)), (.one (.imm true 1 c1))], [] => some (n11 c0 c1 (g11 c0 c1), k11 c0 c1)
  | _, _ => none
theorem hL11 : Loops (fun live x => TellsP (lpAt lq11_0 (tagC x)) (evc R 0 9223372036854775808 (.loop live x))) F11.body := (loops_of (l := [([1, 5, 6, 7, 8, 9, 14, 15, 93, 94], F11b0)]) (by kernel_rfl) ⟨fun σ σr t h ho hl => lt11_0 σ σr t h ho hl, trivial⟩)
theorem t11 (args : List SV) (hp : List Blk) (r : SV × List Blk) (h : q11 args hp = some (r, true)) : frzR R 11 args hp = some r := by
  unfold q11 at h
  split at h
  · rename_i c0 c1
    obtain ⟨hr, hk⟩ := Prod.mk.inj (Option.some.inj h)
    exact (frz_lo (by decide)).trans (R_fn at11 9223372036854775808 (fnP_c Q101_ok hL11 (e11 c0 c1) hr hk))
  · simp at h
noncomputable def Q11 : Qt := qcons 11 q11 Q101
theorem Q11_ok : QOk (frzR R) Q11 := qcons_ok t11 Q101_ok
end Go.Proofs.YtckjibiolfapiaaWords
