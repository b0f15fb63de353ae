/- What each function gives, and that it does. Printed. -/
import Derived.Test.YtihfaondfmeglaaZqTabDevices
import Derived.Test.YtihfaondfmeglaaZmc
import Derived.KernelRfl
import Derived.Test.YtihfaondfmeglaaZqDevicesR
set_option linter.unusedVariables false
set_option linter.unusedSimpArgs false
namespace Go.Proofs.YtihfaondfmeglaaDevices
open Go Go.Zq
set_option maxRecDepth 100000
structure Gl1Cur where
  mk ::
  (fcode : List Row)
  (fat : Int)
  (fseed : Int)
def Gl1Cur.row (x : Gl1Cur) : Row := [.imm true 1 x.fcode, .lit (.int .i64 x.fat), .lit (.int .u64 x.fseed)]
def Gl1Cur.at (r : List Row) (j i : Nat) : Gl1Cur := ⟨rowsAt r j i, intAt r j (i + 1), intAt r j (i + 2)⟩
structure GDevStep where
  mk ::
  (Kind : Int)
  (K : Int)
  (V : Int)
def GDevStep.row (x : GDevStep) : Row := [.lit (.int .i64 x.Kind), .lit (.int .i64 x.K), .lit (.int .i64 x.V)]
def GDevStep.at (r : List Row) (j i : Nat) : GDevStep := ⟨intAt r j i, intAt r j (i + 1), intAt r j (i + 2)⟩
structure GDevice where
  mk ::
  (Every : Int)
  (Left : Int)
  (Rung : Bool)
  (In : List Row)
  (Out : List Row)
  (Lost : Int)
def GDevice.row (x : GDevice) : Row := [.lit (.int .i64 x.Every), .lit (.int .i64 x.Left), .lit (.bool x.Rung), .imm true 1 x.In, .imm true 1 x.Out, .lit (.int .i64 x.Lost)]
def GDevice.at (r : List Row) (j i : Nat) : GDevice := ⟨intAt r j i, intAt r j (i + 1), boolAt r j (i + 2), rowsAt r j (i + 3), rowsAt r j (i + 4), intAt r j (i + 5)⟩
/-! (*spec.l1Cur).next -/
noncomputable def y146_0 (x0 : Gl1Cur) : Int := (bif (ltI x0.fat (lenI x0.fcode)) then (wrapK .i64 (intAt x0.fcode (Int.toNat x0.fat) 0)) else 0)
noncomputable def y146_1 (x0 : Gl1Cur) : Int := (addK .u64 (addK .u64 (mulK .u64 x0.fseed 6364136223846793005) (wrapK .u64 (y146_0 x0))) 1442695040888963407)
noncomputable def T146 (x0 : Gl1Cur) : Pt (Gl1Cur × Int) := (.ok true (.ok true (.ok true (.ok ((((inRow [.int .u8] x0.fcode x0.fat) && true) || (!(ltI x0.fat (lenI x0.fcode)))) && true) (.ok true (.ok true (.ok true (.br (leI (addI x0.fat 1) (lenI x0.fcode)) (.ok true (.ok true (.leaf ((Gl1Cur.mk x0.fcode (addI x0.fat 1) (y146_1 x0)), (y146_0 x0))))) (.ok true (.ok true (.leaf ((Gl1Cur.mk x0.fcode (addI x0.fat 1) (y146_1 x0)), (wrapK .i64 (andK .u64 (shrK .u64 (y146_1 x0) 40) 255))))))))))))))
noncomputable def g146 (x0 : Gl1Cur) : Gl1Cur × Int := hid (T146 x0).val
noncomputable def k146 (x0 : Gl1Cur) : Bool := hid (T146 x0).okv
noncomputable def n146 (x0 : Gl1Cur) (r : Gl1Cur × Int) : SV × List Blk := ((.one (.lit (.int .i64 r.2))), [.box [.imm true 1 r.1.fcode, .lit (.int .i64 r.1.fat), .lit (.int .u64 r.1.fseed)]])
theorem e146 (x0 : Gl1Cur) : fnP qnil [(7, [.int .i64]), (11, [.imm 1]), (17, [.imm 1]), (21, [.int .i64]), (22, [.int .u8]), (23, [.int .u8]), (28, [.int .i64]), (36, [.int .u64]), (47, [.int .i64]), (51, [.imm 1]), (58, [.int .u64])] [] true [] 2097152 F146 [(.one (.ptr 0 0 0))] [.box [.imm true 1 x0.fcode, .lit (.int .i64 x0.fat), .lit (.int .u64 x0.fseed)]] = some ((T146 x0).map (n146 x0)) := by kernel_rfl
noncomputable def q146 : List SV → List Blk → Option ((SV × List Blk) × Bool)
  | [(.one (.ptr 0 0 0))], [.box [.imm true 1 c0, .lit (.int .i64 c1), .lit (.int .u64 c2)]] => some (n146 (Gl1Cur.mk c0 c1 c2) (g146 (Gl1Cur.mk c0 c1 c2)), k146 (Gl1Cur.mk c0 c1 c2))
  | _, _ => none
theorem t146 (args : List SV) (hp : List Blk) (r : SV × List Blk) (h : q146 args hp = some (r, true)) : frzR R 146 args hp = some r := by
  unfold q146 at h
  split at h
  · rename_i c0 c1 c2
    obtain ⟨hr, hk⟩ := Prod.mk.inj (Option.some.inj h)
    exact (frz_lo (by decide)).trans (R_fn at146 2097152 (fnP_c qnil_ok (loops_of (l := []) rfl trivial) (e146 (Gl1Cur.mk c0 c1 c2)) hr hk))
  · simp at h
noncomputable def Q146 : Qt := qcons 146 q146 qnil
theorem Q146_ok : QOk (frzR R) Q146 := qcons_ok t146 qnil_ok
/-! (*spec.l1Cur).pick -/
noncomputable def T73 (x1 : Int) (x0 : Gl1Cur) : Pt (Gl1Cur × Int) := (.ok true (.ok true (.br (leI x1 1) (.ok true (.ok true (.leaf (x0, 0)))) (.ok ((k146 x0) && true) (.ok true (.br (gtI x1 200) (.ok ((k146 (g146 x0).1) && true) (.ok ((neI x1 0) && true) (.ok true (.leaf ((g146 (g146 x0).1).1, (remI (addI (mulI (g146 x0).2 256) (g146 (g146 x0).1).2) x1)))))) (.ok ((neI x1 0) && true) (.ok true (.leaf ((g146 x0).1, (remI (g146 x0).2 x1)))))))))))
noncomputable def g73 (x1 : Int) (x0 : Gl1Cur) : Gl1Cur × Int := hid (T73 x1 x0).val
noncomputable def k73 (x1 : Int) (x0 : Gl1Cur) : Bool := hid (T73 x1 x0).okv
noncomputable def n73 (x1 : Int) (x0 : Gl1Cur) (r : Gl1Cur × Int) : SV × List Blk := ((.one (.lit (.int .i64 r.2))), [.box [.imm true 1 r.1.fcode, .lit (.int .i64 r.1.fat), .lit (.int .u64 r.1.fseed)]])
theorem e73 (x1 : Int) (x0 : Gl1Cur) : fnP Q146 [] [] true [] 2097152 F73 [(.one (.ptr 0 0 0)), (.one (.lit (.int .i64 x1)))] [.box [.imm true 1 x0.fcode, .lit (.int .i64 x0.fat), .lit (.int .u64 x0.fseed)]] = some ((T73 x1 x0).map (n73 x1 x0)) := by kernel_rfl
noncomputable def q73 : List SV → List Blk → Option ((SV × List Blk) × Bool)
  | [(.one (.ptr 0 0 0)), (.one (.lit (.int .i64 c0)))], [.box [.imm true 1 c1, .lit (.int .i64 c2), .lit (.int .u64 c3)]] => some (n73 c0 (Gl1Cur.mk c1 c2 c3) (g73 c0 (Gl1Cur.mk c1 c2 c3)), k73 c0 (Gl1Cur.mk c1 c2 c3))
  | _, _ => none
theorem t73 (args : List SV) (hp : List Blk) (r : SV × List Blk) (h : q73 args hp = some (r, true)) : frzR R 73 args hp = some r := by
  unfold q73 at h
  split at h
  · rename_i c0 c1 c2 c3
    obtain ⟨hr, hk⟩ := Prod.mk.inj (Option.some.inj h)
    exact (frz_lo (by decide)).trans (R_fn at73 2097152 (fnP_c Q146_ok (loops_of (l := []) rfl trivial) (e73 c0 (Gl1Cur.mk c1 c2 c3)) hr hk))
  · simp at h
noncomputable def Q73 : Qt := qcons 73 q73 Q146
theorem Q73_ok : QOk (frzR R) Q73 := qcons_ok t73 Q146_ok
/-! (*spec.l1Cur).one -/
noncomputable def T83 (x1 : Int) (x0 : Gl1Cur) : Pt (Gl1Cur × Bool) := (.ok true (.ok ((k73 x1 x0) && true) (.ok true (.leaf ((g73 x1 x0).1, (eqI (g73 x1 x0).2 0))))))
noncomputable def g83 (x1 : Int) (x0 : Gl1Cur) : Gl1Cur × Bool := hid (T83 x1 x0).val
noncomputable def k83 (x1 : Int) (x0 : Gl1Cur) : Bool := hid (T83 x1 x0).okv
noncomputable def n83 (x1 : Int) (x0 : Gl1Cur) (r : Gl1Cur × Bool) : SV × List Blk := ((.one (.lit (.bool r.2))), [.box [.imm true 1 r.1.fcode, .lit (.int .i64 r.1.fat), .lit (.int .u64 r.1.fseed)]])
theorem e83 (x1 : Int) (x0 : Gl1Cur) : fnP Q73 [] [] true [] 2097152 F83 [(.one (.ptr 0 0 0)), (.one (.lit (.int .i64 x1)))] [.box [.imm true 1 x0.fcode, .lit (.int .i64 x0.fat), .lit (.int .u64 x0.fseed)]] = some ((T83 x1 x0).map (n83 x1 x0)) := by kernel_rfl
noncomputable def q83 : List SV → List Blk → Option ((SV × List Blk) × Bool)
  | [(.one (.ptr 0 0 0)), (.one (.lit (.int .i64 c0)))], [.box [.imm true 1 c1, .lit (.int .i64 c2), .lit (.int .u64 c3)]] => some (n83 c0 (Gl1Cur.mk c1 c2 c3) (g83 c0 (Gl1Cur.mk c1 c2 c3)), k83 c0 (Gl1Cur.mk c1 c2 c3))
  | _, _ => none
theorem t83 (args : List SV) (hp : List Blk) (r : SV × List Blk) (h : q83 args hp = some (r, true)) : frzR R 83 args hp = some r := by
  unfold q83 at h
  split at h
  · rename_i c0 c1 c2 c3
    obtain ⟨hr, hk⟩ := Prod.mk.inj (Option.some.inj h)
    exact (frz_lo (by decide)).trans (R_fn at83 2097152 (fnP_c Q73_ok (loops_of (l := []) rfl trivial) (e83 c0 (Gl1Cur.mk c1 c2 c3)) hr hk))
  · simp at h
noncomputable def Q83 : Qt := qcons 83 q83 Q73
theorem Q83_ok : QOk (frzR R) Q83 := qcons_ok t83 Q73_ok
/-! (*spec.l1Cur).among -/
noncomputable def T91 (x1 : List Row) (x0 : Gl1Cur) : Pt (Gl1Cur × Int) := (.ok true (.ok ((k73 (lenI x1) x0) && ((inRow [.int .i64] x1 (g73 (lenI x1) x0).2) && true)) (.ok true (.leaf ((g73 (lenI x1) x0).1, (intAt x1 (Int.toNat (g73 (lenI x1) x0).2) 0))))))
noncomputable def g91 (x1 : List Row) (x0 : Gl1Cur) : Gl1Cur × Int := hid (T91 x1 x0).val
noncomputable def k91 (x1 : List Row) (x0 : Gl1Cur) : Bool := hid (T91 x1 x0).okv
noncomputable def n91 (x1 : List Row) (x0 : Gl1Cur) (r : Gl1Cur × Int) : SV × List Blk := ((.one (.lit (.int .i64 r.2))), [.box [.imm true 1 r.1.fcode, .lit (.int .i64 r.1.fat), .lit (.int .u64 r.1.fseed)]])
theorem e91 (x1 : List Row) (x0 : Gl1Cur) : fnP Q83 [(10, [.int .i64]), (11, [.int .i64])] [] true [] 2097152 F91 [(.one (.ptr 0 0 0)), (.one (.imm false 1 x1))] [.box [.imm true 1 x0.fcode, .lit (.int .i64 x0.fat), .lit (.int .u64 x0.fseed)]] = some ((T91 x1 x0).map (n91 x1 x0)) := by kernel_rfl
noncomputable def q91 : List SV → List Blk → Option ((SV × List Blk) × Bool)
  | [(.one (.ptr 0 0 0)), (.one (.imm false 1 c0))], [.box [.imm true 1 c1, .lit (.int .i64 c2), .lit (.int .u64 c3)]] => some (n91 c0 (Gl1Cur.mk c1 c2 c3) (g91 c0 (Gl1Cur.mk c1 c2 c3)), k91 c0 (Gl1Cur.mk c1 c2 c3))
  | _, _ => none
theorem t91 (args : List SV) (hp : List Blk) (r : SV × List Blk) (h : q91 args hp = some (r, true)) : frzR R 91 args hp = some r := by
  unfold q91 at h
  split at h
  · rename_i c0 c1 c2 c3
    obtain ⟨hr, hk⟩ := Prod.mk.inj (Option.some.inj h)
    exact (frz_lo (by decide)).trans (R_fn at91 2097152 (fnP_c Q83_ok (loops_of (l := []) rfl trivial) (e91 c0 (Gl1Cur.mk c1 c2 c3)) hr hk))
  · simp at h
noncomputable def Q91 : Qt := qcons 91 q91 Q83
theorem Q91_ok : QOk (frzR R) Q91 := qcons_ok t91 Q83_ok
/-! (*spec.l1Cur).devStep -/
noncomputable def y118_0 (x0 : Gl1Cur) : Gl1Cur × Int := (g91 [(rowI 1), (rowI 1), (rowI 1), (rowI 2), (rowI 2), (rowI 3), (rowI 3), (rowI 4)] x0)
noncomputable def y118_1 (x0 : Gl1Cur) : Gl1Cur × Bool := (g83 60 (g73 256 (y118_0 x0).1).1)
noncomputable def y118_2 (x0 : Gl1Cur) : Gl1Cur × Int := (g73 6 (g73 6 (y118_1 x0).1).1)
noncomputable def y118_3 (x0 : Gl1Cur) : Gl1Cur × Int := (g91 [(rowI 0), (rowI (-1)), (rowI 256)] (y118_2 x0).1)
noncomputable def y118_4 (x0 : Gl1Cur) : Gl1Cur × Bool := (g83 60 (g73 4 (y118_0 x0).1).1)
noncomputable def y118_5 (x0 : Gl1Cur) : Gl1Cur × Int := (g73 6 (g73 6 (y118_4 x0).1).1)
noncomputable def y118_6 (x0 : Gl1Cur) : Gl1Cur × Int := (g91 [(rowI 0), (rowI (-1)), (rowI 256)] (y118_5 x0).1)
noncomputable def y118_7 (x0 : Gl1Cur) : Gl1Cur × Int := (g91 [(rowI 0), (rowI 1), (rowI 2), (rowI 3), (rowI 255)] (g73 4 (y118_0 x0).1).1)
noncomputable def y118_8 (x0 : Gl1Cur) : Gl1Cur × Int := (g73 6 (g83 60 (y118_7 x0).1).1)
noncomputable def y118_9 (x0 : Gl1Cur) : Gl1Cur × Int := (g91 [(rowI 0), (rowI (-1)), (rowI 256)] (g73 6 (y118_8 x0).1).1)
noncomputable def y118_10 (x0 : Gl1Cur) : Gl1Cur × Int := (g73 6 (g83 60 (y118_0 x0).1).1)
noncomputable def y118_11 (x0 : Gl1Cur) : Gl1Cur × Int := (g91 [(rowI 0), (rowI (-1)), (rowI 256)] (g73 6 (y118_10 x0).1).1)
noncomputable def T118 (x0 : Gl1Cur) : Pt (Gl1Cur × GDevStep) := (.ok true (.ok ((k91 [(rowI 1), (rowI 1), (rowI 1), (rowI 2), (rowI 2), (rowI 3), (rowI 3), (rowI 4)] x0) && true) (.ok true (.ok true (.br (eqI (y118_0 x0).2 2) (.ok ((k73 256 (y118_0 x0).1) && true) (.ok ((k83 60 (g73 256 (y118_0 x0).1).1) && true) (.br (y118_1 x0).2 (.ok ((k73 6 (y118_1 x0).1) && ((k73 6 (g73 6 (y118_1 x0).1).1) && ((k91 [(rowI 0), (rowI (-1)), (rowI 256)] (y118_2 x0).1) && true))) (.ok true (.ok true (.leaf ((y118_3 x0).1, (GDevStep.mk (g73 6 (y118_1 x0).1).2 (subI (y118_2 x0).2 1) (y118_3 x0).2)))))) (.ok true (.ok true (.leaf ((y118_1 x0).1, (GDevStep.mk (y118_0 x0).2 0 (g73 256 (y118_0 x0).1).2)))))))) (.ok true (.br (eqI (y118_0 x0).2 3) (.ok ((k73 4 (y118_0 x0).1) && true) (.ok ((k83 60 (g73 4 (y118_0 x0).1).1) && true) (.br (y118_4 x0).2 (.ok ((k73 6 (y118_4 x0).1) && ((k73 6 (g73 6 (y118_4 x0).1).1) && ((k91 [(rowI 0), (rowI (-1)), (rowI 256)] (y118_5 x0).1) && true))) (.ok true (.ok true (.leaf ((y118_6 x0).1, (GDevStep.mk (g73 6 (y118_4 x0).1).2 (subI (y118_5 x0).2 1) (y118_6 x0).2)))))) (.ok true (.ok true (.leaf ((y118_4 x0).1, (GDevStep.mk (y118_0 x0).2 (g73 4 (y118_0 x0).1).2 0)))))))) (.ok true (.br (eqI (y118_0 x0).2 4) (.ok ((k73 4 (y118_0 x0).1) && ((k91 [(rowI 0), (rowI 1), (rowI 2), (rowI 3), (rowI 255)] (g73 4 (y118_0 x0).1).1) && true)) (.ok ((k83 60 (y118_7 x0).1) && true) (.br (g83 60 (y118_7 x0).1).2 (.ok ((k73 6 (g83 60 (y118_7 x0).1).1) && ((k73 6 (y118_8 x0).1) && ((k91 [(rowI 0), (rowI (-1)), (rowI 256)] (g73 6 (y118_8 x0).1).1) && true))) (.ok true (.ok true (.leaf ((y118_9 x0).1, (GDevStep.mk (y118_8 x0).2 (subI (g73 6 (y118_8 x0).1).2 1) (y118_9 x0).2)))))) (.ok true (.ok true (.leaf ((g83 60 (y118_7 x0).1).1, (GDevStep.mk 4 (g73 4 (y118_0 x0).1).2 (y118_7 x0).2)))))))) (.ok ((k83 60 (y118_0 x0).1) && true) (.br (g83 60 (y118_0 x0).1).2 (.ok ((k73 6 (g83 60 (y118_0 x0).1).1) && ((k73 6 (y118_10 x0).1) && ((k91 [(rowI 0), (rowI (-1)), (rowI 256)] (g73 6 (y118_10 x0).1).1) && true))) (.ok true (.ok true (.leaf ((y118_11 x0).1, (GDevStep.mk (y118_10 x0).2 (subI (g73 6 (y118_10 x0).1).2 1) (y118_11 x0).2)))))) (.ok true (.ok true (.leaf ((g83 60 (y118_0 x0).1).1, (GDevStep.mk (y118_0 x0).2 0 0))))))))))))))))
noncomputable def g118 (x0 : Gl1Cur) : Gl1Cur × GDevStep := hid (T118 x0).val
noncomputable def k118 (x0 : Gl1Cur) : Bool := hid (T118 x0).okv
noncomputable def n118 (x0 : Gl1Cur) (r : Gl1Cur × GDevStep) : SV × List Blk := ((.agg [.lit (.int .i64 r.2.Kind), .lit (.int .i64 r.2.K), .lit (.int .i64 r.2.V)]), [.box [.imm true 1 r.1.fcode, .lit (.int .i64 r.1.fat), .lit (.int .u64 r.1.fseed)]])
theorem e118 (x0 : Gl1Cur) : fnP Q91 [(9, [.int .i64]), (39, [.int .i64, .int .i64, .int .i64])] [] true [] 2097152 F118 [(.one (.ptr 0 0 0))] [.box [.imm true 1 x0.fcode, .lit (.int .i64 x0.fat), .lit (.int .u64 x0.fseed)]] = some ((T118 x0).map (n118 x0)) := by kernel_rfl
noncomputable def q118 : List SV → List Blk → Option ((SV × List Blk) × Bool)
  | [(.one (.ptr 0 0 0))], [.box [.imm true 1 c0, .lit (.int .i64 c1), .lit (.int .u64 c2)]] => some (n118 (Gl1Cur.mk c0 c1 c2) (g118 (Gl1Cur.mk c0 c1 c2)), k118 (Gl1Cur.mk c0 c1 c2))
  | _, _ => none
theorem t118 (args : List SV) (hp : List Blk) (r : SV × List Blk) (h : q118 args hp = some (r, true)) : frzR R 118 args hp = some r := by
  unfold q118 at h
  split at h
  · rename_i c0 c1 c2
    obtain ⟨hr, hk⟩ := Prod.mk.inj (Option.some.inj h)
    exact (frz_lo (by decide)).trans (R_fn at118 2097152 (fnP_c Q91_ok (loops_of (l := []) rfl trivial) (e118 (Gl1Cur.mk c0 c1 c2)) hr hk))
  · simp at h
noncomputable def Q118 : Qt := qcons 118 q118 Q91
theorem Q118_ok : QOk (frzR R) Q118 := qcons_ok t118 Q91_ok
/-! (*spec.l1Cur).devSteps -/
structure V108_0 where
  mk ::
  (b0 : Gl1Cur)
  (s3 : List Row)
  (s4 : Int)
noncomputable def y108_0_l_0 (v : V108_0) : Nat := (List.length (v.s3 ++ [(GDevStep.row (g118 v.b0).2)]))
noncomputable def y108_0_l_1 (v : V108_0) : Bool := ((eqN (y108_0_l_0 v) (y108_0_l_0 v)) && true)
noncomputable def N108_0 (v : V108_0) : Pt (Option V108_0) := (.ok true (.br (gtI v.s4 0) (.ok ((k118 v.b0) && (((eqN (List.length v.s3) (List.length v.s3)) && ((eqN (0 + (List.length v.s3)) (List.length v.s3)) && ((leN (mulN ((List.length v.s3) + 1) 24) 140737488355328) && (leN ((List.length v.s3) + 1) 140737488355328)))) && true)) (.ok true (.ok ((y108_0_l_1 v) && (y108_0_l_1 v)) (.leaf (some (V108_0.mk (g118 v.b0).1 (v.s3 ++ [(GDevStep.row (g118 v.b0).2)]) (subI v.s4 1))))))) (.leaf none)))
noncomputable def s108_0 (v : V108_0) : St := ⟨[(0, (.one (.ptr 0 0 0))), (3, (.one (.sl 1 0 (List.length v.s3)))), (4, (.one (.lit (.int .i64 v.s4))))], [.box [.imm true 1 v.b0.fcode, .lit (.int .i64 v.b0.fat), .lit (.int .u64 v.b0.fseed)], .lst 3 v.s3]⟩
def u108_0 : St → Option (V108_0 × Bool)
  | ⟨[(0, (.one (.ptr 0 0 0))), (3, (.one (.sl 1 0 l1))), (4, (.one (.lit (.int .i64 c3))))], [.box [.imm true 1 c0, .lit (.int .i64 c1), .lit (.int .u64 c2)], .lst 3 c_1]⟩ => some ((V108_0.mk (Gl1Cur.mk c0 c1 c2) c_1 c3), eqN l1 (List.length c_1) && (true))
  | _ => none
theorem hN108_0 (v : V108_0) : ((evp Q118 [] [] true [] 1 2097152 F108b0 (s108_0 v)).bind (stpT true 1 [0, 3, 4])) = some ((N108_0 v).map (Option.map s108_0)) := by kernel_rfl
theorem hu108_0 (σ : St) (v : V108_0) (h : u108_0 σ = some (v, true)) : σ = s108_0 v := by
  unfold u108_0 at h
  split at h
  · obtain ⟨hr, hk⟩ := Prod.mk.inj (Option.some.inj h)
    obtain ⟨d0, hk0⟩ := and_t hk
    obtain rfl := of_decide_eq_true d0
    rw [← hr]
    rfl
  · simp at h
theorem lt108_0 : TellsP (lqP true 1 [0, 3, 4] (evp Q118 [] [] true [] 1 2097152 F108b0) u108_0 s108_0 N108_0 2097152) (evc R 1 2097152 (.loop [0, 3, 4] F108b0)) := lqP_tells (evp_tells Q118_ok (loops_of (l := []) (by kernel_rfl) trivial)) hu108_0 hN108_0
noncomputable def lq108_0 : Lp := (12, lqP true 1 [0, 3, 4] (evp Q118 [] [] true [] 1 2097152 F108b0) u108_0 s108_0 N108_0 2097152) :: []
noncomputable def w108_0 (v : V108_0) : V108_0 := (hid (loopV N108_0 2097152 v)).getD v
noncomputable def i108_0 (v : V108_0) : Bool := (hid (loopV N108_0 2097152 v)).isSome
noncomputable def y108_0 (x0 : Gl1Cur) : Gl1Cur × Int := (g73 12 (g83 12 (g73 20 x0).1).1)
noncomputable def y108_1 (x0 : Gl1Cur) : V108_0 := (w108_0 (V108_0.mk (y108_0 x0).1 [] (addI 70 (y108_0 x0).2)))
noncomputable def y108_2 (x0 : Gl1Cur) : Bool := ((eqN (List.length (y108_1 x0).s3) (List.length (y108_1 x0).s3)) && true)
noncomputable def y108_3 (x0 : Gl1Cur) : V108_0 := (w108_0 (V108_0.mk (g83 12 (g73 20 x0).1).1 [] (g73 20 x0).2))
noncomputable def y108_4 (x0 : Gl1Cur) : Bool := ((eqN (List.length (y108_3 x0).s3) (List.length (y108_3 x0).s3)) && true)
noncomputable def T108 (x0 : Gl1Cur) : Pt (Gl1Cur × List Row) := (.ok true (.ok true (.ok ((k73 20 x0) && true) (.ok ((k83 12 (g73 20 x0).1) && true) (.br (g83 12 (g73 20 x0).1).2 (.ok ((k73 12 (g83 12 (g73 20 x0).1).1) && true) (.ok true (.ok true (.ok (i108_0 (V108_0.mk (y108_0 x0).1 [] (addI 70 (y108_0 x0).2))) (.ok true (.ok ((y108_2 x0) && (y108_2 x0)) (.leaf ((y108_1 x0).b0, (y108_1 x0).s3)))))))) (.ok true (.ok true (.ok (i108_0 (V108_0.mk (g83 12 (g73 20 x0).1).1 [] (g73 20 x0).2)) (.ok true (.ok ((y108_4 x0) && (y108_4 x0)) (.leaf ((y108_3 x0).b0, (y108_3 x0).s3))))))))))))
noncomputable def g108 (x0 : Gl1Cur) : Gl1Cur × List Row := hid (T108 x0).val
noncomputable def k108 (x0 : Gl1Cur) : Bool := hid (T108 x0).okv
noncomputable def n108 (x0 : Gl1Cur) (r : Gl1Cur × List Row) : SV × List Blk := ((.one (.sl 1 0 (List.length r.2))), [.box [.imm true 1 r.1.fcode, .lit (.int .i64 r.1.fat), .lit (.int .u64 r.1.fseed)], .lst 3 r.2])
theorem e108 (x0 : Gl1Cur) : fnP Q118 [] [] true lq108_0 2097152 F108 [(.one (.ptr 0 0 0))] [.box [.imm true 1 x0.fcode, .lit (.int .i64 x0.fat), .lit (.int .u64 x0.fseed)]] = some ((T108 x0).map (n108 x0)) := by kernel_rfl
noncomputable def q108 : List SV → List Blk → Option ((SV × List Blk) × Bool)
  | [(.one (.ptr 0 0 0))], [.box [.imm true 1 c0, .lit (.int .i64 c1), .lit (.int .u64 c2)]] => some (n108 (Gl1Cur.mk c0 c1 c2) (g108 (Gl1Cur.mk c0 c1 c2)), k108 (Gl1Cur.mk c0 c1 c2))
  | _, _ => none
theorem hL108 : Loops (fun live x => TellsP (lpAt lq108_0 (tagC x)) (evc R 1 2097152 (.loop live x))) F108.body := (loops_of (l := [([0, 3, 4], F108b0)]) (by kernel_rfl) ⟨fun σ σr t h ho hl => lt108_0 σ σr t h ho hl, trivial⟩)
theorem t108 (args : List SV) (hp : List Blk) (r : SV × List Blk) (h : q108 args hp = some (r, true)) : frzR R 108 args hp = some r := by
  unfold q108 at h
  split at h
  · rename_i c0 c1 c2
    obtain ⟨hr, hk⟩ := Prod.mk.inj (Option.some.inj h)
    exact (frz_lo (by decide)).trans (R_fn at108 2097152 (fnP_c Q118_ok hL108 (e108 (Gl1Cur.mk c0 c1 c2)) hr hk))
  · simp at h
noncomputable def Q108 : Qt := qcons 108 q108 Q118
theorem Q108_ok : QOk (frzR R) Q108 := qcons_ok t108 Q118_ok
/-! spec.DrawPlayDevice -/
noncomputable def y32_0 (x0 : List Row) : Nat := (List.length (g108 (Gl1Cur.mk x0 0 0)).2)
noncomputable def T32 (x0 : List Row) : Pt (List Row) := (.ok true (.ok true (.ok ((k108 (Gl1Cur.mk x0 0 0)) && true) (.ok (((eqN (y32_0 x0) (y32_0 x0)) && true) && ((eqN (y32_0 x0) (y32_0 x0)) && true)) (.ok (eqN (y32_0 x0) (y32_0 x0)) (.leaf (g108 (Gl1Cur.mk x0 0 0)).2))))))
noncomputable def g32 (x0 : List Row) : List Row := hid (T32 x0).val
noncomputable def k32 (x0 : List Row) : Bool := hid (T32 x0).okv
noncomputable def n32 (x0 : List Row) (r : List Row) : SV × List Blk := ((.one (.imm true 3 r)), [])
theorem e32 (x0 : List Row) : fnZ Q108 [] [] true [] 2097152 F32 [(.one (.imm true 1 x0))] = some ((T32 x0).map (n32 x0)) := by kernel_rfl
noncomputable def q32 : List SV → List Blk → Option ((SV × List Blk) × Bool)
  | [(.one (.imm true 1 c0))], [] => some (n32 c0 (g32 c0), k32 c0)
  | _, _ => none
theorem t32 (args : List SV) (hp : List Blk) (r : SV × List Blk) (h : q32 args hp = some (r, true)) : frzR R 100032 args hp = some r := by
  unfold q32 at h
  split at h
  · rename_i c0
    obtain ⟨hr, hk⟩ := Prod.mk.inj (Option.some.inj h)
    exact fnZ_c (f := 32) Q108_ok (loops_of (l := []) rfl trivial) (e32 c0) hr hk (fun r h => R_fn at32 2097152 h)
  · simp at h
noncomputable def Q32 : Qt := qcons 100032 q32 Q108
theorem Q32_ok : QOk (frzR R) Q32 := qcons_ok t32 Q108_ok
/-! impl.within -/
noncomputable def T74 (x0 : Int) (x1 : Int) (x2 : Int) : Pt (Bool) := (.ok true (.ok true (.ok true (.ok true (.leaf (bif (geI x0 x1) then (leI x0 x2) else false))))))
noncomputable def g74 (x0 : Int) (x1 : Int) (x2 : Int) : Bool := hid (T74 x0 x1 x2).val
noncomputable def k74 (x0 : Int) (x1 : Int) (x2 : Int) : Bool := hid (T74 x0 x1 x2).okv
noncomputable def n74 (x0 : Int) (x1 : Int) (x2 : Int) (r : Bool) : SV × List Blk := ((.one (.lit (.bool r))), [])
theorem e74 (x0 : Int) (x1 : Int) (x2 : Int) : fnZ Q32 [] [] true [] 2097152 F74 [(.one (.lit (.int .i64 x0))), (.one (.lit (.int .i64 x1))), (.one (.lit (.int .i64 x2)))] = some ((T74 x0 x1 x2).map (n74 x0 x1 x2)) := by kernel_rfl
noncomputable def q74 : List SV → List Blk → Option ((SV × List Blk) × Bool)
  | [(.one (.lit (.int .i64 c0))), (.one (.lit (.int .i64 c1))), (.one (.lit (.int .i64 c2)))], [] => some (n74 c0 c1 c2 (g74 c0 c1 c2), k74 c0 c1 c2)
  | _, _ => none
theorem t74 (args : List SV) (hp : List Blk) (r : SV × List Blk) (h : q74 args hp = some (r, true)) : frzR R 100074 args hp = some r := by
  unfold q74 at h
  split at h
  · rename_i c0 c1 c2
    obtain ⟨hr, hk⟩ := Prod.mk.inj (Option.some.inj h)
    exact fnZ_c (f := 74) Q32_ok (loops_of (l := []) rfl trivial) (e74 c0 c1 c2) hr hk (fun r h => R_fn at74 2097152 h)
  · simp at h
noncomputable def Q74 : Qt := qcons 100074 q74 Q32
theorem Q74_ok : QOk (frzR R) Q74 := qcons_ok t74 Q32_ok
/-! impl.isDevStep -/
noncomputable def T111 (x0 : GDevStep) : Pt (Bool) := (.ok true (.ok true (.ok true (.br (eqI x0.Kind 1) (.ok true (.ok true (.ok true (.leaf (bif (eqI x0.K 0) then (eqI x0.V 0) else false))))) (.ok true (.br (eqI x0.Kind 2) (.ok ((((k74 x0.V 0 255) && true) || (!(eqI x0.K 0))) && true) (.ok true (.ok true (.leaf (bif (eqI x0.K 0) then (g74 x0.V 0 255) else false))))) (.ok true (.br (eqI x0.Kind 3) (.ok ((k74 x0.K 0 3) && true) (.ok true (.ok true (.leaf (bif (g74 x0.K 0 3) then (eqI x0.V 0) else false))))) (.ok true (.br (eqI x0.Kind 4) (.ok ((k74 x0.K 0 3) && ((((k74 x0.V 0 255) && true) || (!(g74 x0.K 0 3))) && true)) (.ok true (.ok true (.leaf (bif (g74 x0.K 0 3) then (g74 x0.V 0 255) else false))))) (.ok true (.ok true (.ok true (.leaf false))))))))))))))
noncomputable def g111 (x0 : GDevStep) : Bool := hid (T111 x0).val
noncomputable def k111 (x0 : GDevStep) : Bool := hid (T111 x0).okv
noncomputable def n111 (x0 : GDevStep) (r : Bool) : SV × List Blk := ((.one (.lit (.bool r))), [])
theorem e111 (x0 : GDevStep) : fnZ Q74 [(4, [.int .i64]), (8, [.int .i64]), (12, [.int .i64]), (18, [.int .i64]), (22, [.int .i64]), (28, [.int .i64]), (32, [.int .i64]), (38, [.int .i64]), (42, [.int .i64])] [] true [] 2097152 F111 [(.agg [.lit (.int .i64 x0.Kind), .lit (.int .i64 x0.K), .lit (.int .i64 x0.V)])] = some ((T111 x0).map (n111 x0)) := by kernel_rfl
noncomputable def q111 : List SV → List Blk → Option ((SV × List Blk) × Bool)
  | [(.agg [.lit (.int .i64 c0), .lit (.int .i64 c1), .lit (.int .i64 c2)])], [] => some (n111 (GDevStep.mk c0 c1 c2) (g111 (GDevStep.mk c0 c1 c2)), k111 (GDevStep.mk c0 c1 c2))
  | _, _ => none
theorem t111 (args : List SV) (hp : List Blk) (r : SV × List Blk) (h : q111 args hp = some (r, true)) : frzR R 100111 args hp = some r := by
  unfold q111 at h
  split at h
  · rename_i c0 c1 c2
    obtain ⟨hr, hk⟩ := Prod.mk.inj (Option.some.inj h)
    exact fnZ_c (f := 111) Q74_ok (loops_of (l := []) rfl trivial) (e111 (GDevStep.mk c0 c1 c2)) hr hk (fun r h => R_fn at111 2097152 h)
  · simp at h
noncomputable def Q111 : Qt := qcons 100111 q111 Q74
theorem Q111_ok : QOk (frzR R) Q111 := qcons_ok t111 Q74_ok
/-! impl.PlayDevice$1 -/
noncomputable def T110 (x0 : GDevStep) : Pt (Bool) := (.ok true (.ok ((k111 x0) && true) (.ok true (.leaf (!(g111 x0))))))
noncomputable def g110 (x0 : GDevStep) : Bool := hid (T110 x0).val
noncomputable def k110 (x0 : GDevStep) : Bool := hid (T110 x0).okv
noncomputable def n110 (x0 : GDevStep) (r : Bool) : SV × List Blk := ((.one (.lit (.bool r))), [])
theorem e110 (x0 : GDevStep) : fnP Q111 [(3, [.int .i64, .int .i64, .int .i64])] [] true [] 2097152 F110 [(.agg [.lit (.int .i64 x0.Kind), .lit (.int .i64 x0.K), .lit (.int .i64 x0.V)])] [] = some ((T110 x0).map (n110 x0)) := by kernel_rfl
noncomputable def q110 : List SV → List Blk → Option ((SV × List Blk) × Bool)
  | [(.agg [.lit (.int .i64 c0), .lit (.int .i64 c1), .lit (.int .i64 c2)])], [] => some (n110 (GDevStep.mk c0 c1 c2) (g110 (GDevStep.mk c0 c1 c2)), k110 (GDevStep.mk c0 c1 c2))
  | _, _ => none
theorem t110 (args : List SV) (hp : List Blk) (r : SV × List Blk) (h : q110 args hp = some (r, true)) : frzR R 110 args hp = some r := by
  unfold q110 at h
  split at h
  · rename_i c0 c1 c2
    obtain ⟨hr, hk⟩ := Prod.mk.inj (Option.some.inj h)
    exact (frz_lo (by decide)).trans (R_fn at110 2097152 (fnP_c Q111_ok (loops_of (l := []) rfl trivial) (e110 (GDevStep.mk c0 c1 c2)) hr hk))
  · simp at h
noncomputable def Q110 : Qt := qcons 110 q110 Q111
theorem Q110_ok : QOk (frzR R) Q110 := qcons_ok t110 Q111_ok
/-! slices.IndexFunc[[]impl.DevStep,impl.DevStep] -/
structure V157_0 where
  mk ::
  (s0 : List Row)
  (s7 : Int)
  (s8 : Int)
noncomputable def N157_0 (v : V157_0) : Pt (Option V157_0) := (.ok true (.br (ltI v.s8 v.s7) (.ok true (.ok ((inRow [.int .i64, .int .i64, .int .i64] v.s0 v.s8) && ((k110 (GDevStep.at v.s0 (Int.toNat v.s8) 0)) && true)) (.br (g110 (GDevStep.at v.s0 (Int.toNat v.s8) 0)) (.ok true (.leaf none)) (.ok true (.ok true (.leaf (some { v with s8 := (addI v.s8 1) }))))))) (.leaf none)))
noncomputable def s157_0 (v : V157_0) : St := ⟨[(0, (.one (.imm true 3 v.s0))), (1, (.one (.clo 110 []))), (7, (.one (.lit (.int .i64 v.s7)))), (8, (.one (.lit (.int .i64 v.s8))))], []⟩
def u157_0 : St → Option (V157_0 × Bool)
  | ⟨[(0, (.one (.imm true 3 c0))), (1, (.one (.clo 110 []))), (7, (.one (.lit (.int .i64 c1)))), (8, (.one (.lit (.int .i64 c2))))], []⟩ => some ((V157_0.mk c0 c1 c2), true)
  | _ => none
theorem hN157_0 (v : V157_0) : ((evp Q110 [(14, [.int .i64, .int .i64, .int .i64]), (15, [.int .i64, .int .i64, .int .i64])] [] true [] 0 2097152 F157b0 (s157_0 v)).bind (stpT true 0 [0, 1, 7, 8])) = some ((N157_0 v).map (Option.map s157_0)) := by kernel_rfl
theorem hu157_0 (σ : St) (v : V157_0) (h : u157_0 σ = some (v, true)) : σ = s157_0 v := by
  unfold u157_0 at h
  split at h
  · obtain ⟨hr, hk⟩ := Prod.mk.inj (Option.some.inj h)
    rw [← hr]
    rfl
  · simp at h
theorem lt157_0 : TellsP (lqP true 0 [0, 1, 7, 8] (evp Q110 [(14, [.int .i64, .int .i64, .int .i64]), (15, [.int .i64, .int .i64, .int .i64])] [] true [] 0 2097152 F157b0) u157_0 s157_0 N157_0 2097152) (evc R 0 2097152 (.loop [0, 1, 7, 8] F157b0)) := lqP_tells (evp_tells Q110_ok (loops_of (l := []) (by kernel_rfl) trivial)) hu157_0 hN157_0
noncomputable def lq157_0 : Lp := (9, lqP true 0 [0, 1, 7, 8] (evp Q110 [(14, [.int .i64, .int .i64, .int .i64]), (15, [.int .i64, .int .i64, .int .i64])] [] true [] 0 2097152 F157b0) u157_0 s157_0 N157_0 2097152) :: []
noncomputable def w157_0 (v : V157_0) : V157_0 := (hid (loopV N157_0 2097152 v)).getD v
noncomputable def i157_0 (v : V157_0) : Bool := (hid (loopV N157_0 2097152 v)).isSome
noncomputable def y157_0 (x0 : List Row) : V157_0 := (w157_0 (V157_0.mk x0 (lenI x0) 0))
noncomputable def T157 (x0 : List Row) : Pt (Int) := (.ok true (.ok true (.ok true (.ok true (.ok (i157_0 (V157_0.mk x0 (lenI x0) 0)) (.br (ltI (y157_0 x0).s8 (y157_0 x0).s7) (.ok true (.leaf (y157_0 x0).s8)) (.ok true (.ok true (.leaf (-1))))))))))
noncomputable def g157 (x0 : List Row) : Int := hid (T157 x0).val
noncomputable def k157 (x0 : List Row) : Bool := hid (T157 x0).okv
noncomputable def n157 (x0 : List Row) (r : Int) : SV × List Blk := ((.one (.lit (.int .i64 r))), [])
theorem e157 (x0 : List Row) : fnP Q110 [(14, [.int .i64, .int .i64, .int .i64]), (15, [.int .i64, .int .i64, .int .i64])] [] true lq157_0 2097152 F157 [(.one (.imm true 3 x0)), (.one (.clo 110 []))] [] = some ((T157 x0).map (n157 x0)) := by kernel_rfl
noncomputable def q157 : List SV → List Blk → Option ((SV × List Blk) × Bool)
  | [(.one (.imm true 3 c0)), (.one (.clo 110 []))], [] => some (n157 c0 (g157 c0), k157 c0)
  | _, _ => none
theorem hL157 : Loops (fun live x => TellsP (lpAt lq157_0 (tagC x)) (evc R 0 2097152 (.loop live x))) F157.body := (loops_of (l := [([0, 1, 7, 8], F157b0)]) (by kernel_rfl) ⟨fun σ σr t h ho hl => lt157_0 σ σr t h ho hl, trivial⟩)
theorem t157 (args : List SV) (hp : List Blk) (r : SV × List Blk) (h : q157 args hp = some (r, true)) : frzR R 157 args hp = some r := by
  unfold q157 at h
  split at h
  · rename_i c0
    obtain ⟨hr, hk⟩ := Prod.mk.inj (Option.some.inj h)
    exact (frz_lo (by decide)).trans (R_fn at157 2097152 (fnP_c Q110_ok hL157 (e157 c0) hr hk))
  · simp at h
noncomputable def Q157 : Qt := qcons 157 q157 Q110
theorem Q157_ok : QOk (frzR R) Q157 := qcons_ok t157 Q110_ok
/-! slices.ContainsFunc[[]impl.DevStep,impl.DevStep] -/
noncomputable def T109 (x0 : List Row) : Pt (Bool) := (.ok true (.ok ((k157 x0) && true) (.ok true (.leaf (geI (g157 x0) 0)))))
noncomputable def g109 (x0 : List Row) : Bool := hid (T109 x0).val
noncomputable def k109 (x0 : List Row) : Bool := hid (T109 x0).okv
noncomputable def n109 (x0 : List Row) (r : Bool) : SV × List Blk := ((.one (.lit (.bool r))), [])
theorem e109 (x0 : List Row) : fnP Q157 [] [] true [] 2097152 F109 [(.one (.imm true 3 x0)), (.one (.clo 110 []))] [] = some ((T109 x0).map (n109 x0)) := by kernel_rfl
noncomputable def q109 : List SV → List Blk → Option ((SV × List Blk) × Bool)
  | [(.one (.imm true 3 c0)), (.one (.clo 110 []))], [] => some (n109 c0 (g109 c0), k109 c0)
  | _, _ => none
theorem t109 (args : List SV) (hp : List Blk) (r : SV × List Blk) (h : q109 args hp = some (r, true)) : frzR R 109 args hp = some r := by
  unfold q109 at h
  split at h
  · rename_i c0
    obtain ⟨hr, hk⟩ := Prod.mk.inj (Option.some.inj h)
    exact (frz_lo (by decide)).trans (R_fn at109 2097152 (fnP_c Q157_ok (loops_of (l := []) rfl trivial) (e109 c0) hr hk))
  · simp at h
noncomputable def Q109 : Qt := qcons 109 q109 Q157
theorem Q109_ok : QOk (frzR R) Q109 := qcons_ok t109 Q157_ok
/-! impl.NewDevice -/
noncomputable def T59 : Pt (GDevice) := (.ok true (.ok true (.ok true (.leaf (GDevice.mk 8 8 false [] [] 0)))))
noncomputable def g59 : GDevice := hid (T59).val
noncomputable def k59 : Bool := hid (T59).okv
noncomputable def n59 (r : GDevice) : SV × List Blk := ((.agg [.lit (.int .i64 r.Every), .lit (.int .i64 r.Left), .lit (.bool r.Rung), .sl 0 0 (List.length r.In), .sl 1 0 (List.length r.Out), .lit (.int .i64 r.Lost)]), [.lst 1 r.In, .lst 1 r.Out])
theorem e59 : fnP Q109 [] [] true [] 2097152 F59 [] [] = some ((T59).map (n59)) := by kernel_rfl
noncomputable def q59 : List SV → List Blk → Option ((SV × List Blk) × Bool)
  | [], [] => some (n59 (g59), k59)
  | _, _ => none
theorem t59 (args : List SV) (hp : List Blk) (r : SV × List Blk) (h : q59 args hp = some (r, true)) : frzR R 59 args hp = some r := by
  unfold q59 at h
  split at h
  · obtain ⟨hr, hk⟩ := Prod.mk.inj (Option.some.inj h)
    exact (frz_lo (by decide)).trans (R_fn at59 2097152 (fnP_c Q109_ok (loops_of (l := []) rfl trivial) (e59) hr hk))
  · simp at h
noncomputable def Q59 : Qt := qcons 59 q59 Q109
theorem Q59_ok : QOk (frzR R) Q59 := qcons_ok t59 Q109_ok
/-! (*impl.Device).tick -/
noncomputable def y158_0 (x0 : GDevice) : Bool := ((eqN (List.length x0.In) (List.length x0.In)) && ((eqN (List.length x0.Out) (List.length x0.Out)) && true))
noncomputable def T158 (x0 : GDevice) : Pt (GDevice) := (.ok true (.br (eqI x0.Every 0) (.ok (((y158_0 x0) && (y158_0 x0)) && true) (.leaf x0)) (.ok true (.ok true (.br (leI (subI x0.Left 1) 0) (.ok true (.ok (((y158_0 x0) && (y158_0 x0)) && true) (.leaf { x0 with Left := x0.Every, Rung := true }))) (.ok (((y158_0 x0) && (y158_0 x0)) && true) (.leaf { x0 with Left := (subI x0.Left 1) })))))))
noncomputable def g158 (x0 : GDevice) : GDevice := hid (T158 x0).val
noncomputable def k158 (x0 : GDevice) : Bool := hid (T158 x0).okv
noncomputable def n158 (x0 : GDevice) (r : GDevice) : SV × List Blk := ((.tup []), [.box [.lit (.int .i64 r.Every), .lit (.int .i64 r.Left), .lit (.bool r.Rung), .sl 1 0 (List.length r.In), .sl 2 0 (List.length r.Out), .lit (.int .i64 r.Lost)], .lst 1 r.In, .lst 1 r.Out])
theorem e158 (x0 : GDevice) : fnP Q59 [(5, [.int .i64]), (10, [.int .i64]), (17, [.int .i64]), (24, [.int .i64])] [] true [] 2097152 F158 [(.one (.ptr 0 0 0))] [.box [.lit (.int .i64 x0.Every), .lit (.int .i64 x0.Left), .lit (.bool x0.Rung), .sl 1 0 (List.length x0.In), .sl 2 0 (List.length x0.Out), .lit (.int .i64 x0.Lost)], .lst 1 x0.In, .lst 1 x0.Out] = some ((T158 x0).map (n158 x0)) := by kernel_rfl
noncomputable def q158 : List SV → List Blk → Option ((SV × List Blk) × Bool)
  | [(.one (.ptr 0 0 0))], [.box [.lit (.int .i64 c0), .lit (.int .i64 c1), .lit (.bool c2), .sl 1 0 l1, .sl 2 0 l2, .lit (.int .i64 c3)], .lst 1 c_1, .lst 1 c_2] => some (n158 (GDevice.mk c0 c1 c2 c_1 c_2 c3) (g158 (GDevice.mk c0 c1 c2 c_1 c_2 c3)), eqN l1 (List.length c_1) && (eqN l2 (List.length c_2) && (k158 (GDevice.mk c0 c1 c2 c_1 c_2 c3))))
  | _, _ => none
theorem t158 (args : List SV) (hp : List Blk) (r : SV × List Blk) (h : q158 args hp = some (r, true)) : frzR R 158 args hp = some r := by
  unfold q158 at h
  split at h
  · rename_i c0 c1 c2 l1 l2 c3 c_1 c_2
    obtain ⟨hr, hk⟩ := Prod.mk.inj (Option.some.inj h)
    obtain ⟨d0, hk0⟩ := and_t hk
    obtain ⟨d1, hk1⟩ := and_t hk0
    obtain rfl := of_decide_eq_true d0
    obtain rfl := of_decide_eq_true d1
    exact (frz_lo (by decide)).trans (R_fn at158 2097152 (fnP_c Q59_ok (loops_of (l := []) rfl trivial) (e158 (GDevice.mk c0 c1 c2 c_1 c_2 c3)) hr hk1))
  · simp at h
noncomputable def Q158 : Qt := qcons 158 q158 Q59
theorem Q158_ok : QOk (frzR R) Q158 := qcons_ok t158 Q59_ok
/-! (*impl.Device).come -/
noncomputable def y159_0 (x0 : GDevice) : Bool := (eqN (List.length x0.In) (List.length x0.In))
noncomputable def y159_1 (x0 : GDevice) : Bool := ((eqN (List.length x0.Out) (List.length x0.Out)) && true)
noncomputable def y159_2 (x1 : Int) (x0 : GDevice) : Bool := ((eqN (List.length (x0.In ++ [(rowI x1)])) (List.length (x0.In ++ [(rowI x1)]))) && (y159_1 x0))
noncomputable def T159 (x1 : Int) (x0 : GDevice) : Pt (GDevice) := (.ok ((leN (0 + (List.length x0.In)) (List.length x0.In)) && true) (.br (eqI (lenI x0.In) 4) (.ok true (.ok ((((y159_0 x0) && (y159_1 x0)) && ((y159_0 x0) && (y159_1 x0))) && true) (.leaf { x0 with Lost := (minI 1000 (addI x0.Lost 1)) }))) (.ok (((y159_0 x0) && ((eqN (0 + (List.length x0.In)) (List.length x0.In)) && ((leN (mulN ((List.length x0.In) + 1) 8) 140737488355328) && (leN ((List.length x0.In) + 1) 140737488355328)))) && true) (.ok (((y159_2 x1 x0) && (y159_2 x1 x0)) && true) (.leaf { x0 with In := (x0.In ++ [(rowI x1)]) })))))
noncomputable def g159 (x1 : Int) (x0 : GDevice) : GDevice := hid (T159 x1 x0).val
noncomputable def k159 (x1 : Int) (x0 : GDevice) : Bool := hid (T159 x1 x0).okv
noncomputable def n159 (x1 : Int) (x0 : GDevice) (r : GDevice) : SV × List Blk := ((.tup []), [.box [.lit (.int .i64 r.Every), .lit (.int .i64 r.Left), .lit (.bool r.Rung), .sl 1 0 (List.length r.In), .sl 2 0 (List.length r.Out), .lit (.int .i64 r.Lost)], .lst 1 r.In, .lst 1 r.Out])
theorem e159 (x1 : Int) (x0 : GDevice) : fnP Q158 [(7, [.imm 1]), (14, [.int .i64]), (23, [.imm 1])] [] true [] 2097152 F159 [(.one (.ptr 0 0 0)), (.one (.lit (.int .i64 x1)))] [.box [.lit (.int .i64 x0.Every), .lit (.int .i64 x0.Left), .lit (.bool x0.Rung), .sl 1 0 (List.length x0.In), .sl 2 0 (List.length x0.Out), .lit (.int .i64 x0.Lost)], .lst 1 x0.In, .lst 1 x0.Out] = some ((T159 x1 x0).map (n159 x1 x0)) := by kernel_rfl
noncomputable def q159 : List SV → List Blk → Option ((SV × List Blk) × Bool)
  | [(.one (.ptr 0 0 0)), (.one (.lit (.int .i64 c0)))], [.box [.lit (.int .i64 c1), .lit (.int .i64 c2), .lit (.bool c3), .sl 1 0 l1, .sl 2 0 l2, .lit (.int .i64 c4)], .lst 1 c_1, .lst 1 c_2] => some (n159 c0 (GDevice.mk c1 c2 c3 c_1 c_2 c4) (g159 c0 (GDevice.mk c1 c2 c3 c_1 c_2 c4)), eqN l1 (List.length c_1) && (eqN l2 (List.length c_2) && (k159 c0 (GDevice.mk c1 c2 c3 c_1 c_2 c4))))
  | _, _ => none
theorem t159 (args : List SV) (hp : List Blk) (r : SV × List Blk) (h : q159 args hp = some (r, true)) : frzR R 159 args hp = some r := by
  unfold q159 at h
  split at h
  · rename_i c0 c1 c2 c3 l1 l2 c4 c_1 c_2
    obtain ⟨hr, hk⟩ := Prod.mk.inj (Option.some.inj h)
    obtain ⟨d0, hk0⟩ := and_t hk
    obtain ⟨d1, hk1⟩ := and_t hk0
    obtain rfl := of_decide_eq_true d0
    obtain rfl := of_decide_eq_true d1
    exact (frz_lo (by decide)).trans (R_fn at159 2097152 (fnP_c Q158_ok (loops_of (l := []) rfl trivial) (e159 c0 (GDevice.mk c1 c2 c3 c_1 c_2 c4)) hr hk1))
  · simp at h
noncomputable def Q159 : Qt := qcons 159 q159 Q158
theorem Q159_ok : QOk (frzR R) Q159 := qcons_ok t159 Q158_ok
/-! impl.flag -/
noncomputable def T180 (x0 : Bool) (x1 : Int) : Pt (Int) := (.ok true (.ok true (.br x0 (.ok true (.ok true (.ok true (.leaf x1)))) (.ok true (.ok true (.ok true (.leaf 0)))))))
noncomputable def g180 (x0 : Bool) (x1 : Int) : Int := hid (T180 x0 x1).val
noncomputable def k180 (x0 : Bool) (x1 : Int) : Bool := hid (T180 x0 x1).okv
noncomputable def n180 (x0 : Bool) (x1 : Int) (r : Int) : SV × List Blk := ((.one (.lit (.int .i64 r))), [])
theorem e180 (x0 : Bool) (x1 : Int) : fnZ Q159 [] [] true [] 2097152 F180 [(.one (.lit (.bool x0))), (.one (.lit (.int .i64 x1)))] = some ((T180 x0 x1).map (n180 x0 x1)) := by kernel_rfl
noncomputable def q180 : List SV → List Blk → Option ((SV × List Blk) × Bool)
  | [(.one (.lit (.bool c0))), (.one (.lit (.int .i64 c1)))], [] => some (n180 c0 c1 (g180 c0 c1), k180 c0 c1)
  | _, _ => none
theorem t180 (args : List SV) (hp : List Blk) (r : SV × List Blk) (h : q180 args hp = some (r, true)) : frzR R 100180 args hp = some r := by
  unfold q180 at h
  split at h
  · rename_i c0 c1
    obtain ⟨hr, hk⟩ := Prod.mk.inj (Option.some.inj h)
    exact fnZ_c (f := 180) Q159_ok (loops_of (l := []) rfl trivial) (e180 c0 c1) hr hk (fun r h => R_fn at180 2097152 h)
  · simp at h
noncomputable def Q180 : Qt := qcons 100180 q180 Q159
theorem Q180_ok : QOk (frzR R) Q180 := qcons_ok t180 Q159_ok
/-! (*impl.Device).read -/
noncomputable def y160_0 (x0 : GDevice) : Bool := ((eqN (List.length x0.Out) (List.length x0.Out)) && true)
noncomputable def y160_1 (x0 : GDevice) : Bool := (leN (0 + (List.length x0.In)) (List.length x0.In))
noncomputable def y160_2 (x0 : GDevice) : Bool := ((leN (0 + (List.length x0.Out)) (List.length x0.Out)) && true)
noncomputable def y160_3 (x0 : GDevice) : Bool := ((eqN (List.length x0.Out) (List.length (List.take (List.length x0.Out) x0.Out))) && true)
noncomputable def y160_4 (x0 : GDevice) : Bool := (((((eqN (List.length x0.In) (List.length x0.In)) && (y160_0 x0)) && ((y160_1 x0) && (y160_2 x0))) && true) && (((eqN (List.length x0.In) (List.length (List.take (List.length x0.In) x0.In))) && (y160_3 x0)) && true))
noncomputable def y160_5 (x0 : GDevice) : GDevice := { x0 with In := (List.take (List.length x0.In) x0.In), Out := (List.take (List.length x0.Out) x0.Out) }
noncomputable def y160_6 (x0 : GDevice) : List Row := (List.take ((Int.toNat (lenI x0.In)) - 1) (List.drop 1 x0.In))
noncomputable def T160 (x1 : Int) (x0 : GDevice) : Pt (GDevice × Int) := (.ok true (.ok true (.ok true (.br (eqI x1 0) (.ok true (.ok (y160_4 x0) (.leaf ((y160_5 x0), x0.Every)))) (.ok true (.br (eqI x1 1) (.ok ((k180 x0.Rung 1) && true) (.ok true (.ok true (.ok (y160_4 x0) (.leaf ({ x0 with Rung := false, In := (List.take (List.length x0.In) x0.In), Out := (List.take (List.length x0.Out) x0.Out) }, (g180 x0.Rung 1))))))) (.ok true (.br (eqI x1 2) (.ok ((y160_1 x0) && true) (.br (eqI (lenI x0.In) 0) (.ok true (.ok (y160_4 x0) (.leaf ((y160_5 x0), 0)))) (.ok ((ltI 0 (lenI x0.In)) && ((hasRow [.int .i64] x0.In 0 0) && true)) (.ok (((y160_1 x0) && ((leI 1 (lenI x0.In)) && (leI (lenI x0.In) (lenI x0.In)))) && true) (.ok true (.ok (((((eqN ((Int.toNat (lenI x0.In)) - 1) ((Int.toNat (lenI x0.In)) - 1)) && (y160_0 x0)) && ((leN (1 + ((Int.toNat (lenI x0.In)) - 1)) (List.length x0.In)) && (y160_2 x0))) && true) && (((eqN ((Int.toNat (lenI x0.In)) - 1) (List.length (y160_6 x0))) && (y160_3 x0)) && true)) (.leaf ({ x0 with In := (y160_6 x0), Out := (List.take (List.length x0.Out) x0.Out) }, (intAt x0.In 0 0))))))))) (.ok ((y160_1 x0) && true) (.ok (y160_4 x0) (.leaf ((y160_5 x0), (lenI x0.In)))))))))))))
noncomputable def g160 (x1 : Int) (x0 : GDevice) : GDevice × Int := hid (T160 x1 x0).val
noncomputable def k160 (x1 : Int) (x0 : GDevice) : Bool := hid (T160 x1 x0).okv
noncomputable def n160 (x1 : Int) (x0 : GDevice) (r : GDevice × Int) : SV × List Blk := ((.one (.lit (.int .i64 r.2))), [.box [.lit (.int .i64 r.1.Every), .lit (.int .i64 r.1.Left), .lit (.bool r.1.Rung), .sl 1 0 (List.length r.1.In), .sl 2 0 (List.length r.1.Out), .lit (.int .i64 r.1.Lost)], .lst 1 r.1.In, .lst 1 r.1.Out])
theorem e160 (x1 : Int) (x0 : GDevice) : fnP Q180 [(13, [.int .i64]), (19, [.bool]), (30, [.imm 1]), (36, [.imm 1]), (37, [.int .i64]), (38, [.int .i64]), (43, [.imm 1]), (51, [.imm 1]), (1000000, [])] [] true [] 2097152 F160 [(.one (.ptr 0 0 0)), (.one (.lit (.int .i64 x1)))] [.box [.lit (.int .i64 x0.Every), .lit (.int .i64 x0.Left), .lit (.bool x0.Rung), .sl 1 0 (List.length x0.In), .sl 2 0 (List.length x0.Out), .lit (.int .i64 x0.Lost)], .lst 1 x0.In, .lst 1 x0.Out] = some ((T160 x1 x0).map (n160 x1 x0)) := by kernel_rfl
noncomputable def q160 : List SV → List Blk → Option ((SV × List Blk) × Bool)
  | [(.one (.ptr 0 0 0)), (.one (.lit (.int .i64 c0)))], [.box [.lit (.int .i64 c1), .lit (.int .i64 c2), .lit (.bool c3), .sl 1 0 l1, .sl 2 0 l2, .lit (.int .i64 c4)], .lst 1 c_1, .lst 1 c_2] => some (n160 c0 (GDevice.mk c1 c2 c3 c_1 c_2 c4) (g160 c0 (GDevice.mk c1 c2 c3 c_1 c_2 c4)), eqN l1 (List.length c_1) && (eqN l2 (List.length c_2) && (k160 c0 (GDevice.mk c1 c2 c3 c_1 c_2 c4))))
  | _, _ => none
theorem t160 (args : List SV) (hp : List Blk) (r : SV × List Blk) (h : q160 args hp = some (r, true)) : frzR R 160 args hp = some r := by
  unfold q160 at h
  split at h
  · rename_i c0 c1 c2 c3 l1 l2 c4 c_1 c_2
    obtain ⟨hr, hk⟩ := Prod.mk.inj (Option.some.inj h)
    obtain ⟨d0, hk0⟩ := and_t hk
    obtain ⟨d1, hk1⟩ := and_t hk0
    obtain rfl := of_decide_eq_true d0
    obtain rfl := of_decide_eq_true d1
    exact (frz_lo (by decide)).trans (R_fn at160 2097152 (fnP_c Q180_ok (loops_of (l := []) rfl trivial) (e160 c0 (GDevice.mk c1 c2 c3 c_1 c_2 c4)) hr hk1))
  · simp at h
noncomputable def Q160 : Qt := qcons 160 q160 Q180
theorem Q160_ok : QOk (frzR R) Q160 := qcons_ok t160 Q180_ok
/-! (*impl.Device).write -/
noncomputable def y161_0 (x0 : GDevice) : Bool := (eqN (List.length x0.In) (List.length x0.In))
noncomputable def y161_1 (x0 : GDevice) : Bool := (eqN (List.length x0.Out) (List.length x0.Out))
noncomputable def y161_2 (x0 : GDevice) : Bool := ((((y161_0 x0) && ((y161_1 x0) && true)) && ((y161_0 x0) && ((y161_1 x0) && true))) && true)
noncomputable def y161_3 (x2 : Int) (x0 : GDevice) : Bool := ((y161_0 x0) && ((eqN (List.length (x0.Out ++ [(rowI x2)])) (List.length (x0.Out ++ [(rowI x2)]))) && true))
noncomputable def T161 (x1 : Int) (x2 : Int) (x0 : GDevice) : Pt (GDevice) := (.ok true (.ok true (.br (eqI x1 0) (.ok true (.ok (y161_2 x0) (.leaf { x0 with Every := x2, Left := x2 }))) (.ok true (.br (eqI x1 1) (.ok true (.ok (y161_2 x0) (.leaf { x0 with Rung := false }))) (.ok true (.br (eqI x1 2) (.ok ((leN (0 + (List.length x0.Out)) (List.length x0.Out)) && true) (.br (ltI (lenI x0.Out) 200) (.ok (((y161_1 x0) && ((eqN (0 + (List.length x0.Out)) (List.length x0.Out)) && ((leN (mulN ((List.length x0.Out) + 1) 8) 140737488355328) && (leN ((List.length x0.Out) + 1) 140737488355328)))) && true) (.ok (((y161_3 x2 x0) && (y161_3 x2 x0)) && true) (.leaf { x0 with Out := (x0.Out ++ [(rowI x2)]) }))) (.ok (y161_2 x0) (.leaf x0)))) (.ok true (.ok ((((y161_1 x0) && true) && ((y161_1 x0) && true)) && true) (.leaf { x0 with In := [] }))))))))))
noncomputable def g161 (x1 : Int) (x2 : Int) (x0 : GDevice) : GDevice := hid (T161 x1 x2 x0).val
noncomputable def k161 (x1 : Int) (x2 : Int) (x0 : GDevice) : Bool := hid (T161 x1 x2 x0).okv
noncomputable def n161 (x1 : Int) (x2 : Int) (x0 : GDevice) (r : GDevice) : SV × List Blk := ((.tup []), [.box [.lit (.int .i64 r.Every), .lit (.int .i64 r.Left), .lit (.bool r.Rung), .sl 1 0 (List.length r.In), .sl 2 0 (List.length r.Out), .lit (.int .i64 r.Lost)], .lst 1 r.In, .lst 1 r.Out])
theorem e161 (x1 : Int) (x2 : Int) (x0 : GDevice) : fnP Q160 [(30, [.imm 1]), (37, [.imm 1])] [] true [] 2097152 F161 [(.one (.ptr 0 0 0)), (.one (.lit (.int .i64 x1))), (.one (.lit (.int .i64 x2)))] [.box [.lit (.int .i64 x0.Every), .lit (.int .i64 x0.Left), .lit (.bool x0.Rung), .sl 1 0 (List.length x0.In), .sl 2 0 (List.length x0.Out), .lit (.int .i64 x0.Lost)], .lst 1 x0.In, .lst 1 x0.Out] = some ((T161 x1 x2 x0).map (n161 x1 x2 x0)) := by kernel_rfl
noncomputable def q161 : List SV → List Blk → Option ((SV × List Blk) × Bool)
  | [(.one (.ptr 0 0 0)), (.one (.lit (.int .i64 c0))), (.one (.lit (.int .i64 c1)))], [.box [.lit (.int .i64 c2), .lit (.int .i64 c3), .lit (.bool c4), .sl 1 0 l1, .sl 2 0 l2, .lit (.int .i64 c5)], .lst 1 c_1, .lst 1 c_2] => some (n161 c0 c1 (GDevice.mk c2 c3 c4 c_1 c_2 c5) (g161 c0 c1 (GDevice.mk c2 c3 c4 c_1 c_2 c5)), eqN l1 (List.length c_1) && (eqN l2 (List.length c_2) && (k161 c0 c1 (GDevice.mk c2 c3 c4 c_1 c_2 c5))))
  | _, _ => none
theorem t161 (args : List SV) (hp : List Blk) (r : SV × List Blk) (h : q161 args hp = some (r, true)) : frzR R 161 args hp = some r := by
  unfold q161 at h
  split at h
  · rename_i c0 c1 c2 c3 c4 l1 l2 c5 c_1 c_2
    obtain ⟨hr, hk⟩ := Prod.mk.inj (Option.some.inj h)
    obtain ⟨d0, hk0⟩ := and_t hk
    obtain ⟨d1, hk1⟩ := and_t hk0
    obtain rfl := of_decide_eq_true d0
    obtain rfl := of_decide_eq_true d1
    exact (frz_lo (by decide)).trans (R_fn at161 2097152 (fnP_c Q160_ok (loops_of (l := []) rfl trivial) (e161 c0 c1 (GDevice.mk c2 c3 c4 c_1 c_2 c5)) hr hk1))
  · simp at h
noncomputable def Q161 : Qt := qcons 161 q161 Q160
theorem Q161_ok : QOk (frzR R) Q161 := qcons_ok t161 Q160_ok
/-! (*impl.Device).step -/
noncomputable def y112_0 (x0 : GDevice) : Bool := (eqN (List.length x0.In) (List.length x0.In))
noncomputable def y112_1 (x0 : GDevice) : Bool := (eqN (List.length x0.Out) (List.length x0.Out))
noncomputable def y112_2 (x0 : GDevice) : Bool := ((((y112_0 x0) && ((y112_1 x0) && true)) && ((y112_0 x0) && ((y112_1 x0) && true))) && true)
noncomputable def y112_3 (x0 : GDevice) : Bool := ((eqN (List.length (g158 x0).In) (List.length (g158 x0).In)) && ((eqN (List.length (g158 x0).Out) (List.length (g158 x0).Out)) && true))
noncomputable def y112_4 (x1 : GDevStep) (x0 : GDevice) : Bool := ((eqN (List.length (g159 x1.V x0).In) (List.length (g159 x1.V x0).In)) && ((eqN (List.length (g159 x1.V x0).Out) (List.length (g159 x1.V x0).Out)) && true))
noncomputable def y112_5 (x1 : GDevStep) (x0 : GDevice) : Bool := ((eqN (List.length (g160 x1.K x0).1.In) (List.length (g160 x1.K x0).1.In)) && ((eqN (List.length (g160 x1.K x0).1.Out) (List.length (g160 x1.K x0).1.Out)) && true))
noncomputable def y112_6 (x1 : GDevStep) (x0 : GDevice) : Bool := ((eqN (List.length (g161 x1.K x1.V x0).In) (List.length (g161 x1.K x1.V x0).In)) && ((eqN (List.length (g161 x1.K x1.V x0).Out) (List.length (g161 x1.K x1.V x0).Out)) && true))
noncomputable def T112 (x1 : GDevStep) (x0 : GDevice) : Pt (GDevice × Int) := (.ok true (.ok true (.ok true (.br (eqI x1.Kind 1) (.ok (((y112_2 x0) && ((y112_0 x0) && ((y112_1 x0) && (k158 x0)))) && true) (.ok true (.ok (((y112_3 x0) && (y112_3 x0)) && true) (.leaf ((g158 x0), 0))))) (.ok true (.br (eqI x1.Kind 2) (.ok (((y112_2 x0) && ((y112_0 x0) && ((y112_1 x0) && (k159 x1.V x0)))) && true) (.ok true (.ok (((y112_4 x1 x0) && (y112_4 x1 x0)) && true) (.leaf ((g159 x1.V x0), 0))))) (.ok true (.br (eqI x1.Kind 3) (.ok (((y112_2 x0) && ((y112_0 x0) && ((y112_1 x0) && (k160 x1.K x0)))) && true) (.ok (((y112_5 x1 x0) && (y112_5 x1 x0)) && true) (.leaf ((g160 x1.K x0).1, (g160 x1.K x0).2)))) (.ok true (.br (eqI x1.Kind 4) (.ok (((y112_2 x0) && ((y112_0 x0) && ((y112_1 x0) && (k161 x1.K x1.V x0)))) && true) (.ok true (.ok (((y112_6 x1 x0) && (y112_6 x1 x0)) && true) (.leaf ((g161 x1.K x1.V x0), 0))))) (.ok true (.ok (y112_2 x0) (.leaf (x0, 0))))))))))))))
noncomputable def g112 (x1 : GDevStep) (x0 : GDevice) : GDevice × Int := hid (T112 x1 x0).val
noncomputable def k112 (x1 : GDevStep) (x0 : GDevice) : Bool := hid (T112 x1 x0).okv
noncomputable def n112 (x1 : GDevStep) (x0 : GDevice) (r : GDevice × Int) : SV × List Blk := ((.one (.lit (.int .i64 r.2))), [.box [.lit (.int .i64 r.1.Every), .lit (.int .i64 r.1.Left), .lit (.bool r.1.Rung), .sl 1 0 (List.length r.1.In), .sl 2 0 (List.length r.1.Out), .lit (.int .i64 r.1.Lost)], .lst 1 r.1.In, .lst 1 r.1.Out])
theorem e112 (x1 : GDevStep) (x0 : GDevice) : fnP Q161 [(6, [.int .i64]), (15, [.int .i64]), (21, [.int .i64]), (27, [.int .i64]), (29, [.int .i64])] [] true [] 2097152 F112 [(.one (.ptr 0 0 0)), (.agg [.lit (.int .i64 x1.Kind), .lit (.int .i64 x1.K), .lit (.int .i64 x1.V)])] [.box [.lit (.int .i64 x0.Every), .lit (.int .i64 x0.Left), .lit (.bool x0.Rung), .sl 1 0 (List.length x0.In), .sl 2 0 (List.length x0.Out), .lit (.int .i64 x0.Lost)], .lst 1 x0.In, .lst 1 x0.Out] = some ((T112 x1 x0).map (n112 x1 x0)) := by kernel_rfl
noncomputable def q112 : List SV → List Blk → Option ((SV × List Blk) × Bool)
  | [(.one (.ptr 0 0 0)), (.agg [.lit (.int .i64 c0), .lit (.int .i64 c1), .lit (.int .i64 c2)])], [.box [.lit (.int .i64 c3), .lit (.int .i64 c4), .lit (.bool c5), .sl 1 0 l1, .sl 2 0 l2, .lit (.int .i64 c6)], .lst 1 c_1, .lst 1 c_2] => some (n112 (GDevStep.mk c0 c1 c2) (GDevice.mk c3 c4 c5 c_1 c_2 c6) (g112 (GDevStep.mk c0 c1 c2) (GDevice.mk c3 c4 c5 c_1 c_2 c6)), eqN l1 (List.length c_1) && (eqN l2 (List.length c_2) && (k112 (GDevStep.mk c0 c1 c2) (GDevice.mk c3 c4 c5 c_1 c_2 c6))))
  | _, _ => none
theorem t112 (args : List SV) (hp : List Blk) (r : SV × List Blk) (h : q112 args hp = some (r, true)) : frzR R 112 args hp = some r := by
  unfold q112 at h
  split at h
  · rename_i c0 c1 c2 c3 c4 c5 l1 l2 c6 c_1 c_2
    obtain ⟨hr, hk⟩ := Prod.mk.inj (Option.some.inj h)
    obtain ⟨d0, hk0⟩ := and_t hk
    obtain ⟨d1, hk1⟩ := and_t hk0
    obtain rfl := of_decide_eq_true d0
    obtain rfl := of_decide_eq_true d1
    exact (frz_lo (by decide)).trans (R_fn at112 2097152 (fnP_c Q161_ok (loops_of (l := []) rfl trivial) (e112 (GDevStep.mk c0 c1 c2) (GDevice.mk c3 c4 c5 c_1 c_2 c6)) hr hk1))
  · simp at h
noncomputable def Q112 : Qt := qcons 112 q112 Q161
theorem Q112_ok : QOk (frzR R) Q112 := qcons_ok t112 Q161_ok
/-! slices.Clone -/
def q153 : List SV → List Blk → Option ((SV × List Blk) × Bool)
  | [.one (.imm p 1 rows)], [] => some ((SV.one (T.sl 0 0 (List.length rows)), [Blk.lst 1 rows]), decide (List.length rows * 8 ≤ room))
  | _, _ => none
theorem t153 (args : List SV) (hp : List Blk) (r : SV × List Blk) (h : q153 args hp = some (r, true)) : frzR R 153 args hp = some r := by
  rw [frz_lo (by decide)]
  unfold q153 at h
  split at h
  · rename_i p rows
    simp only [Option.some.injEq, Prod.mk.injEq, decide_eq_true_eq] at h
    obtain ⟨rfl, h⟩ := h
    refine run_ext no153 ?_
    have h' : List.length rows ≤ room := by omega
    simp [clones, extOf, cloneE, h, h']
  · simp at h
noncomputable def Q153 : Qt := qcons 153 q153 Q112
theorem Q153_ok : QOk (frzR R) Q153 := qcons_ok t153 Q112_ok
/-! impl.ownDevice -/
noncomputable def y113_0 (x0 : GDevice) : Bool := (((leN (mulN (List.length x0.In) 8) 140737488355328) && ((leN (mulN (List.length x0.Out) 8) 140737488355328) && true)) && true)
noncomputable def y113_1 (x0 : GDevice) : Bool := (((same (α := Int) x0.Every x0.Every) && ((same (α := Int) x0.Left x0.Left) && ((same (α := Bool) x0.Rung x0.Rung) && ((same (α := Nat) (List.length x0.In) (List.length x0.In)) && ((same (α := Nat) (List.length x0.Out) (List.length x0.Out)) && ((same (α := Int) x0.Lost x0.Lost) && true)))))) && (((same (α := Int) 0 0) && ((same (α := Int) 0 0) && ((same (α := Bool) false false) && ((same (α := Int) 0 0) && true)))) && ((sameR x0.In x0.In) && ((sameR x0.Out x0.Out) && true))))
noncomputable def y113_2 (x0 : GDevice) : Bool := ((eqN (List.length x0.In) (List.length x0.In)) && ((eqN (List.length x0.Out) (List.length x0.Out)) && true))
noncomputable def T113 (x0 : GDevice) : Pt (GDevice) := (.ok true (.ok ((y113_0 x0) && ((y113_0 x0) && (y113_1 x0))) (.ok true (.ok ((y113_2 x0) && ((y113_2 x0) && true)) (.leaf x0)))))
noncomputable def g113 (x0 : GDevice) : GDevice := hid (T113 x0).val
noncomputable def k113 (x0 : GDevice) : Bool := hid (T113 x0).okv
noncomputable def n113 (x0 : GDevice) (r : GDevice) : SV × List Blk := ((.agg [.lit (.int .i64 r.Every), .lit (.int .i64 r.Left), .lit (.bool r.Rung), .sl 0 0 (List.length r.In), .sl 1 0 (List.length r.Out), .lit (.int .i64 r.Lost)]), [.lst 1 r.In, .lst 1 r.Out])
theorem e113 (x0 : GDevice) (p0 : Bool) (p1 : Bool) : fnP Q153 [(4, [.imm 1]), (7, [.imm 1]), (11, [.int .i64, .int .i64, .bool, .imm 1, .imm 1, .int .i64])] [] true [] 2097152 F113 [(.agg [.lit (.int .i64 x0.Every), .lit (.int .i64 x0.Left), .lit (.bool x0.Rung), .imm p0 1 x0.In, .imm p1 1 x0.Out, .lit (.int .i64 x0.Lost)])] [] = some ((T113 x0).map (n113 x0)) := by kernel_rfl
noncomputable def q113 : List SV → List Blk → Option ((SV × List Blk) × Bool)
  | [(.agg [.lit (.int .i64 c0), .lit (.int .i64 c1), .lit (.bool c2), .imm p0 1 c3, .imm p1 1 c4, .lit (.int .i64 c5)])], [] => some (n113 (GDevice.mk c0 c1 c2 c3 c4 c5) (g113 (GDevice.mk c0 c1 c2 c3 c4 c5)), k113 (GDevice.mk c0 c1 c2 c3 c4 c5))
  | _, _ => none
theorem t113 (args : List SV) (hp : List Blk) (r : SV × List Blk) (h : q113 args hp = some (r, true)) : frzR R 113 args hp = some r := by
  unfold q113 at h
  split at h
  · rename_i c0 c1 c2 p0 c3 p1 c4 c5
    obtain ⟨hr, hk⟩ := Prod.mk.inj (Option.some.inj h)
    exact (frz_lo (by decide)).trans (R_fn at113 2097152 (fnP_c Q153_ok (loops_of (l := []) rfl trivial) (e113 (GDevice.mk c0 c1 c2 c3 c4 c5) p0 p1) hr hk))
  · simp at h
noncomputable def Q113 : Qt := qcons 113 q113 Q153
theorem Q113_ok : QOk (frzR R) Q113 := qcons_ok t113 Q153_ok
/-! impl.PlayDevice -/
structure V33_0 where
  mk ::
  (b0 : GDevice)
  (b1 : GDevice)
  (s6 : List Row)
  (s19 : List Row)
  (s20 : Int)
  (s21 : Int)
noncomputable def y33_0_l_0 (v : V33_0) : Bool := (eqN (List.length v.b1.In) (List.length v.b1.In))
noncomputable def y33_0_l_1 (v : V33_0) : Bool := (eqN (List.length v.b1.Out) (List.length v.b1.Out))
noncomputable def y33_0_l_2 (v : V33_0) : Bool := ((y33_0_l_0 v) && ((y33_0_l_1 v) && true))
noncomputable def y33_0_l_3 (v : V33_0) : Bool := (eqN (List.length v.b0.In) (List.length v.b0.In))
noncomputable def y33_0_l_4 (v : V33_0) : Bool := (eqN (List.length v.b0.Out) (List.length v.b0.Out))
noncomputable def y33_0_l_5 (v : V33_0) : GDevice × Int := (g112 (GDevStep.at v.s19 (Int.toNat v.s21) 0) v.b1)
noncomputable def y33_0_l_6 (v : V33_0) : Bool := (eqN (List.length (y33_0_l_5 v).1.In) (List.length (y33_0_l_5 v).1.In))
noncomputable def y33_0_l_7 (v : V33_0) : Bool := (eqN (List.length (y33_0_l_5 v).1.Out) (List.length (y33_0_l_5 v).1.Out))
noncomputable def y33_0_l_8 (v : V33_0) : Nat := (List.length (v.s6 ++ [(rowI (y33_0_l_5 v).2)]))
noncomputable def y33_0_l_9 (v : V33_0) : Bool := ((eqN (y33_0_l_8 v) (y33_0_l_8 v)) && true)
noncomputable def N33_0 (v : V33_0) : Pt (Option V33_0) := (.ok true (.br (ltI v.s21 v.s20) (.ok ((inRow [.int .i64, .int .i64, .int .i64] v.s19 v.s21) && true) (.ok (((((y33_0_l_2 v) && (y33_0_l_2 v)) && true) && ((y33_0_l_0 v) && ((y33_0_l_1 v) && (k112 (GDevStep.at v.s19 (Int.toNat v.s21) 0) v.b1)))) && (((eqN (List.length v.s6) (List.length v.s6)) && ((eqN (0 + (List.length v.s6)) (List.length v.s6)) && ((leN (mulN ((List.length v.s6) + 1) 8) 140737488355328) && (leN ((List.length v.s6) + 1) 140737488355328)))) && true)) (.ok true (.ok ((((y33_0_l_3 v) && ((y33_0_l_4 v) && true)) && (((y33_0_l_6 v) && ((y33_0_l_7 v) && true)) && ((y33_0_l_3 v) && ((y33_0_l_4 v) && ((y33_0_l_6 v) && ((y33_0_l_7 v) && (y33_0_l_9 v))))))) && (y33_0_l_9 v)) (.leaf (some { v with b1 := (y33_0_l_5 v).1, s6 := (v.s6 ++ [(rowI (y33_0_l_5 v).2)]), s21 := (addI v.s21 1) })))))) (.leaf none)))
noncomputable def s33_0 (v : V33_0) : St := ⟨[(2, (.one (.ptr 0 0 0))), (5, (.one (.ptr 1 0 0))), (6, (.one (.sl 6 0 (List.length v.s6)))), (19, (.one (.imm true 3 v.s19))), (20, (.one (.lit (.int .i64 v.s20)))), (21, (.one (.lit (.int .i64 v.s21))))], [.box [.lit (.int .i64 v.b0.Every), .lit (.int .i64 v.b0.Left), .lit (.bool v.b0.Rung), .sl 2 0 (List.length v.b0.In), .sl 3 0 (List.length v.b0.Out), .lit (.int .i64 v.b0.Lost)], .box [.lit (.int .i64 v.b1.Every), .lit (.int .i64 v.b1.Left), .lit (.bool v.b1.Rung), .sl 4 0 (List.length v.b1.In), .sl 5 0 (List.length v.b1.Out), .lit (.int .i64 v.b1.Lost)], .lst 1 v.b0.In, .lst 1 v.b0.Out, .lst 1 v.b1.In, .lst 1 v.b1.Out, .lst 1 v.s6]⟩
def u33_0 : St → Option (V33_0 × Bool)
  | ⟨[(2, (.one (.ptr 0 0 0))), (5, (.one (.ptr 1 0 0))), (6, (.one (.sl 6 0 l6))), (19, (.one (.imm true 3 c8))), (20, (.one (.lit (.int .i64 c9)))), (21, (.one (.lit (.int .i64 c10))))], [.box [.lit (.int .i64 c0), .lit (.int .i64 c1), .lit (.bool c2), .sl 2 0 l2, .sl 3 0 l3, .lit (.int .i64 c3)], .box [.lit (.int .i64 c4), .lit (.int .i64 c5), .lit (.bool c6), .sl 4 0 l4, .sl 5 0 l5, .lit (.int .i64 c7)], .lst 1 c_2, .lst 1 c_3, .lst 1 c_4, .lst 1 c_5, .lst 1 c_6]⟩ => some ((V33_0.mk (GDevice.mk c0 c1 c2 c_2 c_3 c3) (GDevice.mk c4 c5 c6 c_4 c_5 c7) c_6 c8 c9 c10), eqN l2 (List.length c_2) && (eqN l3 (List.length c_3) && (eqN l4 (List.length c_4) && (eqN l5 (List.length c_5) && (eqN l6 (List.length c_6) && (true))))))
  | _ => none
theorem hN33_0 (v : V33_0) : ((evp Q112 [(23, [.int .i64, .int .i64, .int .i64]), (24, [.int .i64, .int .i64, .int .i64]), (26, [.int .i64, .int .i64, .int .i64]), (31, [.int .i64, .int .i64, .bool, .imm 1, .imm 1, .int .i64])] [] true [] 0 2097152 F33b0 (s33_0 v)).bind (stpT true 0 [2, 5, 6, 19, 20, 21])) = some ((N33_0 v).map (Option.map s33_0)) := by kernel_rfl
theorem hu33_0 (σ : St) (v : V33_0) (h : u33_0 σ = some (v, true)) : σ = s33_0 v := by
  unfold u33_0 at h
  split at h
  · obtain ⟨hr, hk⟩ := Prod.mk.inj (Option.some.inj h)
    obtain ⟨d0, hk0⟩ := and_t hk
    obtain ⟨d1, hk1⟩ := and_t hk0
    obtain ⟨d2, hk2⟩ := and_t hk1
    obtain ⟨d3, hk3⟩ := and_t hk2
    obtain ⟨d4, hk4⟩ := and_t hk3
    obtain rfl := of_decide_eq_true d0
    obtain rfl := of_decide_eq_true d1
    obtain rfl := of_decide_eq_true d2
    obtain rfl := of_decide_eq_true d3
    obtain rfl := of_decide_eq_true d4
    rw [← hr]
    rfl
  · simp at h
theorem lt33_0 : TellsP (lqP true 0 [2, 5, 6, 19, 20, 21] (evp Q112 [(23, [.int .i64, .int .i64, .int .i64]), (24, [.int .i64, .int .i64, .int .i64]), (26, [.int .i64, .int .i64, .int .i64]), (31, [.int .i64, .int .i64, .bool, .imm 1, .imm 1, .int .i64])] [] true [] 0 2097152 F33b0) u33_0 s33_0 N33_0 2097152) (evc R 0 2097152 (.loop [2, 5, 6, 19, 20, 21] F33b0)) := lqP_tells (evp_tells Q112_ok (loops_of (l := []) (by kernel_rfl) trivial)) hu33_0 hN33_0
noncomputable def lq33_0 : Lp := (22, lqP true 0 [2, 5, 6, 19, 20, 21] (evp Q112 [(23, [.int .i64, .int .i64, .int .i64]), (24, [.int .i64, .int .i64, .int .i64]), (26, [.int .i64, .int .i64, .int .i64]), (31, [.int .i64, .int .i64, .bool, .imm 1, .imm 1, .int .i64])] [] true [] 0 2097152 F33b0) u33_0 s33_0 N33_0 2097152) :: []
noncomputable def w33_0 (v : V33_0) : V33_0 := (hid (loopV N33_0 2097152 v)).getD v
noncomputable def i33_0 (v : V33_0) : Bool := (hid (loopV N33_0 2097152 v)).isSome
noncomputable def y33_0 : Bool := ((eqN (List.length (g59).In) (List.length (g59).In)) && ((eqN (List.length (g59).Out) (List.length (g59).Out)) && true))
noncomputable def y33_1 (x0 : List Row) : Int := (bif (!(gtI (lenI x0) 80)) then 0 else 0)
noncomputable def y33_2 (x0 : List Row) : V33_0 := (w33_0 (V33_0.mk (GDevice.mk (y33_1 x0) (y33_1 x0) (bif (!(gtI (lenI x0) 80)) then false else false) [] [] (y33_1 x0)) (g59) [] x0 (lenI x0) 0))
noncomputable def y33_3 (x0 : List Row) : Bool := (eqN (List.length (g113 (y33_2 x0).b1).In) (List.length (g113 (y33_2 x0).b1).In))
noncomputable def y33_4 (x0 : List Row) : Bool := (eqN (List.length (g113 (y33_2 x0).b1).Out) (List.length (g113 (y33_2 x0).b1).Out))
noncomputable def y33_5 (x0 : List Row) : Bool := ((eqN (List.length (y33_2 x0).s6) (List.length (y33_2 x0).s6)) && true)
noncomputable def y33_6 (x0 : List Row) : Bool := (((y33_3 x0) && ((y33_4 x0) && true)) && (y33_5 x0))
noncomputable def T33 (x0 : List Row) : Pt (GDevice × List Row × Bool) := (.ok true (.ok ((((k109 x0) && true) || (gtI (lenI x0) 80)) && true) (.br (bif (gtI (lenI x0) 80) then true else (g109 x0)) (.ok true (.ok true (.ok true (.leaf ((GDevice.mk 0 0 false [] [] 0), [], false))))) (.ok ((k59) && true) (.ok true (.ok true (.ok ((y33_0 && y33_0) && true) (.ok y33_0 (.ok (i33_0 (V33_0.mk (GDevice.mk (y33_1 x0) (y33_1 x0) (bif (!(gtI (lenI x0) 80)) then false else false) [] [] (y33_1 x0)) (g59) [] x0 (lenI x0) 0)) (.ok (((((eqN (List.length (y33_2 x0).b1.In) (List.length (y33_2 x0).b1.In)) && ((eqN (List.length (y33_2 x0).b1.Out) (List.length (y33_2 x0).b1.Out)) && true)) && true) && (k113 (y33_2 x0).b1)) && true) (.ok (((y33_3 x0) && ((y33_4 x0) && (y33_5 x0))) && (y33_6 x0)) (.ok (y33_6 x0) (.leaf ((g113 (y33_2 x0).b1), (y33_2 x0).s6, true))))))))))))))
noncomputable def g33 (x0 : List Row) : GDevice × List Row × Bool := hid (T33 x0).val
noncomputable def k33 (x0 : List Row) : Bool := hid (T33 x0).okv
noncomputable def n33 (x0 : List Row) (r : GDevice × List Row × Bool) : SV × List Blk := ((.tup [(.agg [.lit (.int .i64 r.1.Every), .lit (.int .i64 r.1.Left), .lit (.bool r.1.Rung), .imm true 1 r.1.In, .imm true 1 r.1.Out, .lit (.int .i64 r.1.Lost)]), (.one (.imm true 1 r.2.1)), (.one (.lit (.bool r.2.2)))]), [])
theorem e33 (x0 : List Row) : fnZ Q113 [(23, [.int .i64, .int .i64, .int .i64]), (24, [.int .i64, .int .i64, .int .i64]), (26, [.int .i64, .int .i64, .int .i64]), (31, [.int .i64, .int .i64, .bool, .imm 1, .imm 1, .int .i64])] [] true lq33_0 2097152 F33 [(.one (.imm true 3 x0))] = some ((T33 x0).map (n33 x0)) := by kernel_rfl
noncomputable def q33 : List SV → List Blk → Option ((SV × List Blk) × Bool)
  | [(.one (.imm true 3 c0))], [] => some (n33 c0 (g33 c0), k33 c0)
  | _, _ => none
theorem hL33 : Loops (fun live x => TellsP (lpAt lq33_0 (tagC x)) (evc R 0 2097152 (.loop live x))) F33.body := (loops_of (l := [([2, 5, 6, 19, 20, 21], F33b0)]) (by kernel_rfl) ⟨fun σ σr t h ho hl => lt33_0 σ σr t h ho hl, trivial⟩)
theorem t33 (args : List SV) (hp : List Blk) (r : SV × List Blk) (h : q33 args hp = some (r, true)) : frzR R 100033 args hp = some r := by
  unfold q33 at h
  split at h
  · rename_i c0
    obtain ⟨hr, hk⟩ := Prod.mk.inj (Option.some.inj h)
    exact fnZ_c (f := 33) Q113_ok hL33 (e33 c0) hr hk (fun r h => R_fn at33 2097152 h)
  · simp at h
noncomputable def Q33 : Qt := qcons 100033 q33 Q113
theorem Q33_ok : QOk (frzR R) Q33 := qcons_ok t33 Q113_ok
/-! spec.NewDevice -/
noncomputable def T60 : Pt (GDevice) := (.ok true (.ok true (.ok true (.leaf (GDevice.mk 8 8 false [] [] 0)))))
noncomputable def g60 : GDevice := hid (T60).val
noncomputable def k60 : Bool := hid (T60).okv
noncomputable def n60 (r : GDevice) : SV × List Blk := ((.agg [.lit (.int .i64 r.Every), .lit (.int .i64 r.Left), .lit (.bool r.Rung), .sl 0 0 (List.length r.In), .sl 1 0 (List.length r.Out), .lit (.int .i64 r.Lost)]), [.lst 1 r.In, .lst 1 r.Out])
theorem e60 : fnP Q33 [] [] true [] 2097152 F60 [] [] = some ((T60).map (n60)) := by kernel_rfl
noncomputable def q60 : List SV → List Blk → Option ((SV × List Blk) × Bool)
  | [], [] => some (n60 (g60), k60)
  | _, _ => none
theorem t60 (args : List SV) (hp : List Blk) (r : SV × List Blk) (h : q60 args hp = some (r, true)) : frzR R 60 args hp = some r := by
  unfold q60 at h
  split at h
  · obtain ⟨hr, hk⟩ := Prod.mk.inj (Option.some.inj h)
    exact (frz_lo (by decide)).trans (R_fn at60 2097152 (fnP_c Q33_ok (loops_of (l := []) rfl trivial) (e60) hr hk))
  · simp at h
noncomputable def Q60 : Qt := qcons 60 q60 Q33
theorem Q60_ok : QOk (frzR R) Q60 := qcons_ok t60 Q33_ok
/-! spec.l1In -/
noncomputable def T78 (x0 : Int) (x1 : Int) (x2 : Int) : Pt (Bool) := (.ok true (.ok true (.ok true (.ok true (.leaf (bif (geI x0 x1) then (leI x0 x2) else false))))))
noncomputable def g78 (x0 : Int) (x1 : Int) (x2 : Int) : Bool := hid (T78 x0 x1 x2).val
noncomputable def k78 (x0 : Int) (x1 : Int) (x2 : Int) : Bool := hid (T78 x0 x1 x2).okv
noncomputable def n78 (x0 : Int) (x1 : Int) (x2 : Int) (r : Bool) : SV × List Blk := ((.one (.lit (.bool r))), [])
theorem e78 (x0 : Int) (x1 : Int) (x2 : Int) : fnZ Q60 [] [] true [] 2097152 F78 [(.one (.lit (.int .i64 x0))), (.one (.lit (.int .i64 x1))), (.one (.lit (.int .i64 x2)))] = some ((T78 x0 x1 x2).map (n78 x0 x1 x2)) := by kernel_rfl
noncomputable def q78 : List SV → List Blk → Option ((SV × List Blk) × Bool)
  | [(.one (.lit (.int .i64 c0))), (.one (.lit (.int .i64 c1))), (.one (.lit (.int .i64 c2)))], [] => some (n78 c0 c1 c2 (g78 c0 c1 c2), k78 c0 c1 c2)
  | _, _ => none
theorem t78 (args : List SV) (hp : List Blk) (r : SV × List Blk) (h : q78 args hp = some (r, true)) : frzR R 100078 args hp = some r := by
  unfold q78 at h
  split at h
  · rename_i c0 c1 c2
    obtain ⟨hr, hk⟩ := Prod.mk.inj (Option.some.inj h)
    exact fnZ_c (f := 78) Q60_ok (loops_of (l := []) rfl trivial) (e78 c0 c1 c2) hr hk (fun r h => R_fn at78 2097152 h)
  · simp at h
noncomputable def Q78 : Qt := qcons 100078 q78 Q60
theorem Q78_ok : QOk (frzR R) Q78 := qcons_ok t78 Q60_ok
/-! spec.l5Port -/
noncomputable def T132 (x0 : Int) : Pt (Bool) := (.ok true (.ok ((k78 x0 0 3) && true) (.ok true (.ok true (.leaf (g78 x0 0 3))))))
noncomputable def g132 (x0 : Int) : Bool := hid (T132 x0).val
noncomputable def k132 (x0 : Int) : Bool := hid (T132 x0).okv
noncomputable def n132 (x0 : Int) (r : Bool) : SV × List Blk := ((.one (.lit (.bool r))), [])
theorem e132 (x0 : Int) : fnZ Q78 [] [] true [] 2097152 F132 [(.one (.lit (.int .i64 x0)))] = some ((T132 x0).map (n132 x0)) := by kernel_rfl
noncomputable def q132 : List SV → List Blk → Option ((SV × List Blk) × Bool)
  | [(.one (.lit (.int .i64 c0)))], [] => some (n132 c0 (g132 c0), k132 c0)
  | _, _ => none
theorem t132 (args : List SV) (hp : List Blk) (r : SV × List Blk) (h : q132 args hp = some (r, true)) : frzR R 100132 args hp = some r := by
  unfold q132 at h
  split at h
  · rename_i c0
    obtain ⟨hr, hk⟩ := Prod.mk.inj (Option.some.inj h)
    exact fnZ_c (f := 132) Q78_ok (loops_of (l := []) rfl trivial) (e132 c0) hr hk (fun r h => R_fn at132 2097152 h)
  · simp at h
noncomputable def Q132 : Qt := qcons 100132 q132 Q78
theorem Q132_ok : QOk (frzR R) Q132 := qcons_ok t132 Q78_ok
/-! spec.l5Good -/
noncomputable def y114_0 (x0 : GDevStep) : Bool := (bif (eqI x0.Kind 4) then (g132 x0.K) else false)
noncomputable def T114 (x0 : GDevStep) : Pt (Bool) := (.ok true (.ok true (.ok true (.br (eqI x0.Kind 1) (.ok true (.ok true (.ok true (.leaf (bif (eqI x0.K 0) then (eqI x0.V 0) else false))))) (.ok true (.br (eqI x0.Kind 2) (.ok ((((k78 x0.V 0 255) && true) || (!(eqI x0.K 0))) && true) (.ok true (.ok true (.leaf (bif (eqI x0.K 0) then (g78 x0.V 0 255) else false))))) (.ok true (.br (eqI x0.Kind 3) (.ok ((k132 x0.K) && true) (.ok true (.ok true (.leaf (bif (g132 x0.K) then (eqI x0.V 0) else false))))) (.ok ((((k132 x0.K) && true) || (!(eqI x0.Kind 4))) && ((((k78 x0.V 0 255) && true) || (!(y114_0 x0))) && true)) (.ok true (.ok true (.leaf (bif (y114_0 x0) then (g78 x0.V 0 255) else false)))))))))))))
noncomputable def g114 (x0 : GDevStep) : Bool := hid (T114 x0).val
noncomputable def k114 (x0 : GDevStep) : Bool := hid (T114 x0).okv
noncomputable def n114 (x0 : GDevStep) (r : Bool) : SV × List Blk := ((.one (.lit (.bool r))), [])
theorem e114 (x0 : GDevStep) : fnZ Q132 [(4, [.int .i64]), (8, [.int .i64]), (12, [.int .i64]), (18, [.int .i64]), (22, [.int .i64]), (28, [.int .i64]), (32, [.int .i64]), (36, [.int .i64]), (40, [.int .i64]), (45, [.int .i64])] [] true [] 2097152 F114 [(.agg [.lit (.int .i64 x0.Kind), .lit (.int .i64 x0.K), .lit (.int .i64 x0.V)])] = some ((T114 x0).map (n114 x0)) := by kernel_rfl
noncomputable def q114 : List SV → List Blk → Option ((SV × List Blk) × Bool)
  | [(.agg [.lit (.int .i64 c0), .lit (.int .i64 c1), .lit (.int .i64 c2)])], [] => some (n114 (GDevStep.mk c0 c1 c2) (g114 (GDevStep.mk c0 c1 c2)), k114 (GDevStep.mk c0 c1 c2))
  | _, _ => none
theorem t114 (args : List SV) (hp : List Blk) (r : SV × List Blk) (h : q114 args hp = some (r, true)) : frzR R 100114 args hp = some r := by
  unfold q114 at h
  split at h
  · rename_i c0 c1 c2
    obtain ⟨hr, hk⟩ := Prod.mk.inj (Option.some.inj h)
    exact fnZ_c (f := 114) Q132_ok (loops_of (l := []) rfl trivial) (e114 (GDevStep.mk c0 c1 c2)) hr hk (fun r h => R_fn at114 2097152 h)
  · simp at h
noncomputable def Q114 : Qt := qcons 100114 q114 Q132
theorem Q114_ok : QOk (frzR R) Q114 := qcons_ok t114 Q132_ok
/-! spec.l5Tick -/
noncomputable def y162_0 (x0 : GDevice) : Bool := ((eqN (List.length x0.In) (List.length x0.In)) && ((eqN (List.length x0.Out) (List.length x0.Out)) && true))
noncomputable def T162 (x0 : GDevice) : Pt (GDevice) := (.ok true (.ok true (.br (eqI x0.Every 0) (.ok true (.ok ((y162_0 x0) && ((y162_0 x0) && true)) (.leaf x0))) (.ok true (.br (gtI x0.Left 0) (.ok true (.ok true (.br (eqI (subI x0.Left 1) 0) (.ok true (.ok true (.ok true (.ok ((y162_0 x0) && ((y162_0 x0) && true)) (.leaf { x0 with Left := x0.Every, Rung := true }))))) (.ok true (.ok ((y162_0 x0) && ((y162_0 x0) && true)) (.leaf { x0 with Left := (subI x0.Left 1) })))))) (.ok true (.br (eqI x0.Left 0) (.ok true (.ok true (.ok true (.ok ((y162_0 x0) && ((y162_0 x0) && true)) (.leaf { x0 with Left := x0.Every, Rung := true }))))) (.ok true (.ok ((y162_0 x0) && ((y162_0 x0) && true)) (.leaf x0))))))))))
noncomputable def g162 (x0 : GDevice) : GDevice := hid (T162 x0).val
noncomputable def k162 (x0 : GDevice) : Bool := hid (T162 x0).okv
noncomputable def n162 (x0 : GDevice) (r : GDevice) : SV × List Blk := ((.agg [.lit (.int .i64 r.Every), .lit (.int .i64 r.Left), .lit (.bool r.Rung), .sl 0 0 (List.length r.In), .sl 1 0 (List.length r.Out), .lit (.int .i64 r.Lost)]), [.lst 1 r.In, .lst 1 r.Out])
theorem e162 (x0 : GDevice) : fnP Q114 [(4, [.int .i64]), (6, [.int .i64, .int .i64, .bool, .imm 1, .imm 1, .int .i64]), (8, [.int .i64]), (11, [.int .i64]), (15, [.int .i64]), (18, [.int .i64]), (21, [.int .i64, .int .i64, .bool, .imm 1, .imm 1, .int .i64])] [] true [] 2097152 F162 [(.agg [.lit (.int .i64 x0.Every), .lit (.int .i64 x0.Left), .lit (.bool x0.Rung), .sl 0 0 (List.length x0.In), .sl 1 0 (List.length x0.Out), .lit (.int .i64 x0.Lost)])] [.lst 1 x0.In, .lst 1 x0.Out] = some ((T162 x0).map (n162 x0)) := by kernel_rfl
noncomputable def q162 : List SV → List Blk → Option ((SV × List Blk) × Bool)
  | [(.agg [.lit (.int .i64 c0), .lit (.int .i64 c1), .lit (.bool c2), .sl 0 0 l0, .sl 1 0 l1, .lit (.int .i64 c3)])], [.lst 1 c_0, .lst 1 c_1] => some (n162 (GDevice.mk c0 c1 c2 c_0 c_1 c3) (g162 (GDevice.mk c0 c1 c2 c_0 c_1 c3)), eqN l0 (List.length c_0) && (eqN l1 (List.length c_1) && (k162 (GDevice.mk c0 c1 c2 c_0 c_1 c3))))
  | _, _ => none
theorem t162 (args : List SV) (hp : List Blk) (r : SV × List Blk) (h : q162 args hp = some (r, true)) : frzR R 162 args hp = some r := by
  unfold q162 at h
  split at h
  · rename_i c0 c1 c2 l0 l1 c3 c_0 c_1
    obtain ⟨hr, hk⟩ := Prod.mk.inj (Option.some.inj h)
    obtain ⟨d0, hk0⟩ := and_t hk
    obtain ⟨d1, hk1⟩ := and_t hk0
    obtain rfl := of_decide_eq_true d0
    obtain rfl := of_decide_eq_true d1
    exact (frz_lo (by decide)).trans (R_fn at162 2097152 (fnP_c Q114_ok (loops_of (l := []) rfl trivial) (e162 (GDevice.mk c0 c1 c2 c_0 c_1 c3)) hr hk1))
  · simp at h
noncomputable def Q162 : Qt := qcons 162 q162 Q114
theorem Q162_ok : QOk (frzR R) Q162 := qcons_ok t162 Q114_ok
/-! spec.l5Come -/
noncomputable def y163_0 (x0 : GDevice) : Bool := (eqN (List.length x0.In) (List.length x0.In))
noncomputable def y163_1 (x0 : GDevice) : Bool := ((eqN (List.length x0.Out) (List.length x0.Out)) && true)
noncomputable def y163_2 (x0 : GDevice) (x1 : Int) : Bool := ((eqN (List.length (x0.In ++ [(rowI x1)])) (List.length (x0.In ++ [(rowI x1)]))) && (y163_1 x0))
noncomputable def y163_3 (x0 : GDevice) : Bool := (((y163_0 x0) && (y163_1 x0)) && (((y163_0 x0) && (y163_1 x0)) && true))
noncomputable def T163 (x0 : GDevice) (x1 : Int) : Pt (GDevice) := (.ok true (.ok ((leN (0 + (List.length x0.In)) (List.length x0.In)) && true) (.br (ltI (lenI x0.In) 4) (.ok (((y163_0 x0) && ((leN (mulN (0 + (List.length x0.In)) 8) 140737488355328) && (leN (0 + (List.length x0.In)) 140737488355328))) && (((y163_0 x0) && ((eqN (0 + (List.length x0.In)) (List.length x0.In)) && ((leN (mulN ((List.length x0.In) + 1) 8) 140737488355328) && (leN ((List.length x0.In) + 1) 140737488355328)))) && true)) (.ok true (.ok ((y163_2 x0 x1) && ((y163_2 x0 x1) && true)) (.leaf { x0 with In := (x0.In ++ [(rowI x1)]) })))) (.ok true (.br (ltI x0.Lost 1000) (.ok true (.ok true (.ok (y163_3 x0) (.leaf { x0 with Lost := (addI x0.Lost 1) })))) (.ok true (.ok (y163_3 x0) (.leaf x0))))))))
noncomputable def g163 (x0 : GDevice) (x1 : Int) : GDevice := hid (T163 x0 x1).val
noncomputable def k163 (x0 : GDevice) (x1 : Int) : Bool := hid (T163 x0 x1).okv
noncomputable def n163 (x0 : GDevice) (x1 : Int) (r : GDevice) : SV × List Blk := ((.agg [.lit (.int .i64 r.Every), .lit (.int .i64 r.Left), .lit (.bool r.Rung), .sl 0 0 (List.length r.In), .sl 1 0 (List.length r.Out), .lit (.int .i64 r.Lost)]), [.lst 1 r.In, .lst 1 r.Out])
theorem e163 (x0 : GDevice) (x1 : Int) : fnP Q162 [(6, [.imm 1]), (11, [.imm 1]), (18, [.int .i64]), (21, [.int .i64]), (24, [.int .i64, .int .i64, .bool, .imm 1, .imm 1, .int .i64])] [] true [] 2097152 F163 [(.agg [.lit (.int .i64 x0.Every), .lit (.int .i64 x0.Left), .lit (.bool x0.Rung), .sl 0 0 (List.length x0.In), .sl 1 0 (List.length x0.Out), .lit (.int .i64 x0.Lost)]), (.one (.lit (.int .i64 x1)))] [.lst 1 x0.In, .lst 1 x0.Out] = some ((T163 x0 x1).map (n163 x0 x1)) := by kernel_rfl
noncomputable def q163 : List SV → List Blk → Option ((SV × List Blk) × Bool)
  | [(.agg [.lit (.int .i64 c0), .lit (.int .i64 c1), .lit (.bool c2), .sl 0 0 l0, .sl 1 0 l1, .lit (.int .i64 c3)]), (.one (.lit (.int .i64 c4)))], [.lst 1 c_0, .lst 1 c_1] => some (n163 (GDevice.mk c0 c1 c2 c_0 c_1 c3) c4 (g163 (GDevice.mk c0 c1 c2 c_0 c_1 c3) c4), eqN l0 (List.length c_0) && (eqN l1 (List.length c_1) && (k163 (GDevice.mk c0 c1 c2 c_0 c_1 c3) c4)))
  | _, _ => none
theorem t163 (args : List SV) (hp : List Blk) (r : SV × List Blk) (h : q163 args hp = some (r, true)) : frzR R 163 args hp = some r := by
  unfold q163 at h
  split at h
  · rename_i c0 c1 c2 l0 l1 c3 c4 c_0 c_1
    obtain ⟨hr, hk⟩ := Prod.mk.inj (Option.some.inj h)
    obtain ⟨d0, hk0⟩ := and_t hk
    obtain ⟨d1, hk1⟩ := and_t hk0
    obtain rfl := of_decide_eq_true d0
    obtain rfl := of_decide_eq_true d1
    exact (frz_lo (by decide)).trans (R_fn at163 2097152 (fnP_c Q162_ok (loops_of (l := []) rfl trivial) (e163 (GDevice.mk c0 c1 c2 c_0 c_1 c3) c4) hr hk1))
  · simp at h
noncomputable def Q163 : Qt := qcons 163 q163 Q162
theorem Q163_ok : QOk (frzR R) Q163 := qcons_ok t163 Q162_ok
/-! spec.l1Flag -/
noncomputable def T178 (x0 : Bool) (x1 : Int) : Pt (Int) := (.ok true (.ok true (.br x0 (.ok true (.ok true (.ok true (.leaf x1)))) (.ok true (.ok true (.ok true (.leaf 0)))))))
noncomputable def g178 (x0 : Bool) (x1 : Int) : Int := hid (T178 x0 x1).val
noncomputable def k178 (x0 : Bool) (x1 : Int) : Bool := hid (T178 x0 x1).okv
noncomputable def n178 (x0 : Bool) (x1 : Int) (r : Int) : SV × List Blk := ((.one (.lit (.int .i64 r))), [])
theorem e178 (x0 : Bool) (x1 : Int) : fnZ Q163 [] [] true [] 2097152 F178 [(.one (.lit (.bool x0))), (.one (.lit (.int .i64 x1)))] = some ((T178 x0 x1).map (n178 x0 x1)) := by kernel_rfl
noncomputable def q178 : List SV → List Blk → Option ((SV × List Blk) × Bool)
  | [(.one (.lit (.bool c0))), (.one (.lit (.int .i64 c1)))], [] => some (n178 c0 c1 (g178 c0 c1), k178 c0 c1)
  | _, _ => none
theorem t178 (args : List SV) (hp : List Blk) (r : SV × List Blk) (h : q178 args hp = some (r, true)) : frzR R 100178 args hp = some r := by
  unfold q178 at h
  split at h
  · rename_i c0 c1
    obtain ⟨hr, hk⟩ := Prod.mk.inj (Option.some.inj h)
    exact fnZ_c (f := 178) Q163_ok (loops_of (l := []) rfl trivial) (e178 c0 c1) hr hk (fun r h => R_fn at178 2097152 h)
  · simp at h
noncomputable def Q178 : Qt := qcons 100178 q178 Q163
theorem Q178_ok : QOk (frzR R) Q178 := qcons_ok t178 Q163_ok
/-! spec.l5Read -/
noncomputable def y133_0 (x0 : GDevice) : Bool := ((same (α := Int) x0.Every x0.Every) && ((same (α := Int) x0.Left x0.Left) && ((same (α := Bool) x0.Rung x0.Rung) && ((same (α := Nat) (List.length x0.In) (List.length x0.In)) && ((same (α := Nat) (List.length x0.Out) (List.length x0.Out)) && ((same (α := Int) x0.Lost x0.Lost) && true))))))
noncomputable def y133_1 (x0 : GDevice) : Bool := ((sameR x0.In x0.In) && ((sameR x0.Out x0.Out) && ((y133_0 x0) && ((y133_0 x0) && true))))
noncomputable def y133_2 (x0 : GDevice) : Bool := ((eqN (List.length x0.Out) (List.length x0.Out)) && true)
noncomputable def y133_3 (x0 : GDevice) : Bool := ((eqN (List.length x0.In) (List.length x0.In)) && (y133_2 x0))
noncomputable def y133_4 (x0 : GDevice) : Bool := (leN (0 + (List.length x0.In)) (List.length x0.In))
noncomputable def y133_5 (x0 : GDevice) : List Row := (List.take ((Int.toNat (lenI x0.In)) - 1) (List.drop 1 x0.In))
noncomputable def y133_6 (x0 : GDevice) : Bool := ((eqN (List.length (y133_5 x0)) (List.length (y133_5 x0))) && (y133_2 x0))
noncomputable def y133_7 (x0 : GDevice) : Bool := (((same (α := Int) (lenI x0.In) (lenI x0.In)) && true) && (y133_1 x0))
noncomputable def T133 (x0 : GDevice) (x1 : Int) : Pt (GDevice × Int) := (.ok true (.ok true (.ok true (.br (eqI x1 0) (.ok (((same (α := Int) x0.Every x0.Every) && true) && (y133_1 x0)) (.ok ((y133_3 x0) && ((y133_3 x0) && true)) (.leaf (x0, x0.Every)))) (.ok true (.br (eqI x1 1) (.ok ((k178 x0.Rung 1) && true) (.ok true (.ok true (.ok ((y133_3 x0) && ((y133_3 x0) && true)) (.leaf ({ x0 with Rung := false }, (g178 x0.Rung 1))))))) (.ok true (.br (eqI x1 2) (.ok ((y133_4 x0) && true) (.br (eqI (lenI x0.In) 0) (.ok true (.ok ((y133_3 x0) && ((y133_3 x0) && true)) (.leaf (x0, 0)))) (.ok ((ltI 0 (lenI x0.In)) && ((hasRow [.int .i64] x0.In 0 0) && true)) (.ok (((y133_4 x0) && ((leI 1 (lenI x0.In)) && (leI (lenI x0.In) (lenI x0.In)))) && (((leN (1 + ((Int.toNat (lenI x0.In)) - 1)) (List.length x0.In)) && ((leN (mulN (0 + (List.length (y133_5 x0))) 8) 140737488355328) && (leN (0 + (List.length (y133_5 x0))) 140737488355328))) && true)) (.ok true (.ok ((y133_6 x0) && ((y133_6 x0) && true)) (.leaf ({ x0 with In := (y133_5 x0) }, (intAt x0.In 0 0))))))))) (.ok ((((y133_4 x0) && true) && true) && (((((y133_4 x0) && true) && true) && ((((y133_4 x0) && true) && true) && (y133_7 x0))) && (y133_7 x0))) (.ok ((y133_3 x0) && ((y133_3 x0) && true)) (.leaf (x0, (lenI x0.In)))))))))))))
noncomputable def g133 (x0 : GDevice) (x1 : Int) : GDevice × Int := hid (T133 x0 x1).val
noncomputable def k133 (x0 : GDevice) (x1 : Int) : Bool := hid (T133 x0 x1).okv
noncomputable def n133 (x0 : GDevice) (x1 : Int) (r : GDevice × Int) : SV × List Blk := ((.tup [(.agg [.lit (.int .i64 r.1.Every), .lit (.int .i64 r.1.Left), .lit (.bool r.1.Rung), .sl 0 0 (List.length r.1.In), .sl 1 0 (List.length r.1.Out), .lit (.int .i64 r.1.Lost)]), (.one (.lit (.int .i64 r.2)))]), [.lst 1 r.1.In, .lst 1 r.1.Out])
theorem e133 (x0 : GDevice) (x1 : Int) : fnP Q178 [(11, [.int .i64, .int .i64, .bool, .imm 1, .imm 1, .int .i64]), (13, [.int .i64]), (17, [.bool]), (20, [.int .i64, .int .i64, .bool, .imm 1, .imm 1, .int .i64]), (25, [.imm 1]), (28, [.int .i64, .int .i64, .bool, .imm 1, .imm 1, .int .i64]), (30, [.imm 1]), (31, [.int .i64]), (32, [.int .i64]), (35, [.imm 1]), (39, [.int .i64, .int .i64, .bool, .imm 1, .imm 1, .int .i64]), (41, [.int .i64, .int .i64, .bool, .imm 1, .imm 1, .int .i64]), (43, [.imm 1]), (37, [])] [] true [] 2097152 F133 [(.agg [.lit (.int .i64 x0.Every), .lit (.int .i64 x0.Left), .lit (.bool x0.Rung), .sl 0 0 (List.length x0.In), .sl 1 0 (List.length x0.Out), .lit (.int .i64 x0.Lost)]), (.one (.lit (.int .i64 x1)))] [.lst 1 x0.In, .lst 1 x0.Out] = some ((T133 x0 x1).map (n133 x0 x1)) := by kernel_rfl
noncomputable def q133 : List SV → List Blk → Option ((SV × List Blk) × Bool)
  | [(.agg [.lit (.int .i64 c0), .lit (.int .i64 c1), .lit (.bool c2), .sl 0 0 l0, .sl 1 0 l1, .lit (.int .i64 c3)]), (.one (.lit (.int .i64 c4)))], [.lst 1 c_0, .lst 1 c_1] => some (n133 (GDevice.mk c0 c1 c2 c_0 c_1 c3) c4 (g133 (GDevice.mk c0 c1 c2 c_0 c_1 c3) c4), eqN l0 (List.length c_0) && (eqN l1 (List.length c_1) && (k133 (GDevice.mk c0 c1 c2 c_0 c_1 c3) c4)))
  | _, _ => none
theorem t133 (args : List SV) (hp : List Blk) (r : SV × List Blk) (h : q133 args hp = some (r, true)) : frzR R 133 args hp = some r := by
  unfold q133 at h
  split at h
  · rename_i c0 c1 c2 l0 l1 c3 c4 c_0 c_1
    obtain ⟨hr, hk⟩ := Prod.mk.inj (Option.some.inj h)
    obtain ⟨d0, hk0⟩ := and_t hk
    obtain ⟨d1, hk1⟩ := and_t hk0
    obtain rfl := of_decide_eq_true d0
    obtain rfl := of_decide_eq_true d1
    exact (frz_lo (by decide)).trans (R_fn at133 2097152 (fnP_c Q178_ok (loops_of (l := []) rfl trivial) (e133 (GDevice.mk c0 c1 c2 c_0 c_1 c3) c4) hr hk1))
  · simp at h
noncomputable def Q133 : Qt := qcons 133 q133 Q178
theorem Q133_ok : QOk (frzR R) Q133 := qcons_ok t133 Q178_ok
/-! spec.l5Write -/
noncomputable def y134_0 (x0 : GDevice) : Bool := (eqN (List.length x0.In) (List.length x0.In))
noncomputable def y134_1 (x0 : GDevice) : Bool := (eqN (List.length x0.Out) (List.length x0.Out))
noncomputable def y134_2 (x0 : GDevice) : Bool := (((y134_0 x0) && ((y134_1 x0) && true)) && (((y134_0 x0) && ((y134_1 x0) && true)) && true))
noncomputable def y134_3 (x0 : GDevice) (x2 : Int) : Bool := ((y134_0 x0) && ((eqN (List.length (x0.Out ++ [(rowI x2)])) (List.length (x0.Out ++ [(rowI x2)]))) && true))
noncomputable def T134 (x0 : GDevice) (x1 : Int) (x2 : Int) : Pt (GDevice) := (.ok true (.ok true (.ok true (.br (eqI x1 0) (.ok true (.ok true (.ok true (.ok (y134_2 x0) (.leaf { x0 with Every := x2, Left := x2 }))))) (.ok true (.br (eqI x1 1) (.ok true (.ok true (.ok (y134_2 x0) (.leaf { x0 with Rung := false })))) (.ok true (.br (eqI x1 2) (.ok ((leN (0 + (List.length x0.Out)) (List.length x0.Out)) && true) (.br (ltI (lenI x0.Out) 200) (.ok (((y134_1 x0) && ((leN (mulN (0 + (List.length x0.Out)) 8) 140737488355328) && (leN (0 + (List.length x0.Out)) 140737488355328))) && (((y134_1 x0) && ((eqN (0 + (List.length x0.Out)) (List.length x0.Out)) && ((leN (mulN ((List.length x0.Out) + 1) 8) 140737488355328) && (leN ((List.length x0.Out) + 1) 140737488355328)))) && true)) (.ok true (.ok ((y134_3 x0 x2) && ((y134_3 x0 x2) && true)) (.leaf { x0 with Out := (x0.Out ++ [(rowI x2)]) })))) (.ok true (.ok (y134_2 x0) (.leaf x0))))) (.ok true (.ok true (.ok (((y134_1 x0) && true) && (((y134_1 x0) && true) && true)) (.leaf { x0 with In := [] }))))))))))))
noncomputable def g134 (x0 : GDevice) (x1 : Int) (x2 : Int) : GDevice := hid (T134 x0 x1 x2).val
noncomputable def k134 (x0 : GDevice) (x1 : Int) (x2 : Int) : Bool := hid (T134 x0 x1 x2).okv
noncomputable def n134 (x0 : GDevice) (x1 : Int) (x2 : Int) (r : GDevice) : SV × List Blk := ((.agg [.lit (.int .i64 r.Every), .lit (.int .i64 r.Left), .lit (.bool r.Rung), .sl 0 0 (List.length r.In), .sl 1 0 (List.length r.Out), .lit (.int .i64 r.Lost)]), [.lst 1 r.In, .lst 1 r.Out])
theorem e134 (x0 : GDevice) (x1 : Int) (x2 : Int) : fnP Q133 [(21, [.imm 1]), (26, [.imm 1]), (32, [.int .i64, .int .i64, .bool, .imm 1, .imm 1, .int .i64])] [] true [] 2097152 F134 [(.agg [.lit (.int .i64 x0.Every), .lit (.int .i64 x0.Left), .lit (.bool x0.Rung), .sl 0 0 (List.length x0.In), .sl 1 0 (List.length x0.Out), .lit (.int .i64 x0.Lost)]), (.one (.lit (.int .i64 x1))), (.one (.lit (.int .i64 x2)))] [.lst 1 x0.In, .lst 1 x0.Out] = some ((T134 x0 x1 x2).map (n134 x0 x1 x2)) := by kernel_rfl
noncomputable def q134 : List SV → List Blk → Option ((SV × List Blk) × Bool)
  | [(.agg [.lit (.int .i64 c0), .lit (.int .i64 c1), .lit (.bool c2), .sl 0 0 l0, .sl 1 0 l1, .lit (.int .i64 c3)]), (.one (.lit (.int .i64 c4))), (.one (.lit (.int .i64 c5)))], [.lst 1 c_0, .lst 1 c_1] => some (n134 (GDevice.mk c0 c1 c2 c_0 c_1 c3) c4 c5 (g134 (GDevice.mk c0 c1 c2 c_0 c_1 c3) c4 c5), eqN l0 (List.length c_0) && (eqN l1 (List.length c_1) && (k134 (GDevice.mk c0 c1 c2 c_0 c_1 c3) c4 c5)))
  | _, _ => none
theorem t134 (args : List SV) (hp : List Blk) (r : SV × List Blk) (h : q134 args hp = some (r, true)) : frzR R 134 args hp = some r := by
  unfold q134 at h
  split at h
  · rename_i c0 c1 c2 l0 l1 c3 c4 c5 c_0 c_1
    obtain ⟨hr, hk⟩ := Prod.mk.inj (Option.some.inj h)
    obtain ⟨d0, hk0⟩ := and_t hk
    obtain ⟨d1, hk1⟩ := and_t hk0
    obtain rfl := of_decide_eq_true d0
    obtain rfl := of_decide_eq_true d1
    exact (frz_lo (by decide)).trans (R_fn at134 2097152 (fnP_c Q133_ok (loops_of (l := []) rfl trivial) (e134 (GDevice.mk c0 c1 c2 c_0 c_1 c3) c4 c5) hr hk1))
  · simp at h
noncomputable def Q134 : Qt := qcons 134 q134 Q133
theorem Q134_ok : QOk (frzR R) Q134 := qcons_ok t134 Q133_ok
/-! spec.l5Step -/
noncomputable def y115_0 (x0 : GDevice) : Bool := (eqN (List.length x0.In) (List.length x0.In))
noncomputable def y115_1 (x0 : GDevice) : Bool := (eqN (List.length x0.Out) (List.length x0.Out))
noncomputable def y115_2 (x0 : GDevice) : Bool := (((y115_0 x0) && ((y115_1 x0) && true)) && (((y115_0 x0) && ((y115_1 x0) && true)) && true))
noncomputable def y115_3 (x0 : GDevice) : Bool := ((eqN (List.length (g162 x0).In) (List.length (g162 x0).In)) && ((eqN (List.length (g162 x0).Out) (List.length (g162 x0).Out)) && true))
noncomputable def y115_4 (x0 : GDevice) (x1 : GDevStep) : Bool := ((eqN (List.length (g163 x0 x1.V).In) (List.length (g163 x0 x1.V).In)) && ((eqN (List.length (g163 x0 x1.V).Out) (List.length (g163 x0 x1.V).Out)) && true))
noncomputable def y115_5 (x0 : GDevice) (x1 : GDevStep) : Bool := ((eqN (List.length (g133 x0 x1.K).1.In) (List.length (g133 x0 x1.K).1.In)) && ((eqN (List.length (g133 x0 x1.K).1.Out) (List.length (g133 x0 x1.K).1.Out)) && true))
noncomputable def y115_6 (x0 : GDevice) (x1 : GDevStep) : Bool := ((eqN (List.length (g134 x0 x1.K x1.V).In) (List.length (g134 x0 x1.K x1.V).In)) && ((eqN (List.length (g134 x0 x1.K x1.V).Out) (List.length (g134 x0 x1.K x1.V).Out)) && true))
noncomputable def T115 (x0 : GDevice) (x1 : GDevStep) : Pt (GDevice × Int) := (.ok true (.ok true (.ok true (.br (eqI x1.Kind 1) (.ok (((y115_2 x0) && ((y115_0 x0) && ((y115_1 x0) && (k162 x0)))) && true) (.ok ((y115_3 x0) && ((y115_3 x0) && true)) (.leaf ((g162 x0), 0)))) (.ok true (.br (eqI x1.Kind 2) (.ok (((y115_2 x0) && ((y115_0 x0) && ((y115_1 x0) && (k163 x0 x1.V)))) && true) (.ok ((y115_4 x0 x1) && ((y115_4 x0 x1) && true)) (.leaf ((g163 x0 x1.V), 0)))) (.ok true (.br (eqI x1.Kind 3) (.ok (((y115_2 x0) && ((y115_0 x0) && ((y115_1 x0) && (k133 x0 x1.K)))) && true) (.ok ((y115_5 x0 x1) && ((y115_5 x0 x1) && true)) (.leaf ((g133 x0 x1.K).1, (g133 x0 x1.K).2)))) (.ok (((y115_2 x0) && ((y115_0 x0) && ((y115_1 x0) && (k134 x0 x1.K x1.V)))) && true) (.ok ((y115_6 x0 x1) && ((y115_6 x0 x1) && true)) (.leaf ((g134 x0 x1.K x1.V), 0))))))))))))
noncomputable def g115 (x0 : GDevice) (x1 : GDevStep) : GDevice × Int := hid (T115 x0 x1).val
noncomputable def k115 (x0 : GDevice) (x1 : GDevStep) : Bool := hid (T115 x0 x1).okv
noncomputable def n115 (x0 : GDevice) (x1 : GDevStep) (r : GDevice × Int) : SV × List Blk := ((.tup [(.agg [.lit (.int .i64 r.1.Every), .lit (.int .i64 r.1.Left), .lit (.bool r.1.Rung), .sl 0 0 (List.length r.1.In), .sl 1 0 (List.length r.1.Out), .lit (.int .i64 r.1.Lost)]), (.one (.lit (.int .i64 r.2)))]), [.lst 1 r.1.In, .lst 1 r.1.Out])
theorem e115 (x0 : GDevice) (x1 : GDevStep) : fnP Q134 [(7, [.int .i64]), (10, [.int .i64, .int .i64, .bool, .imm 1, .imm 1, .int .i64]), (14, [.int .i64, .int .i64, .bool, .imm 1, .imm 1, .int .i64]), (16, [.int .i64]), (20, [.int .i64, .int .i64, .bool, .imm 1, .imm 1, .int .i64]), (22, [.int .i64]), (26, [.int .i64, .int .i64, .bool, .imm 1, .imm 1, .int .i64]), (28, [.int .i64]), (30, [.int .i64])] [] true [] 2097152 F115 [(.agg [.lit (.int .i64 x0.Every), .lit (.int .i64 x0.Left), .lit (.bool x0.Rung), .sl 0 0 (List.length x0.In), .sl 1 0 (List.length x0.Out), .lit (.int .i64 x0.Lost)]), (.agg [.lit (.int .i64 x1.Kind), .lit (.int .i64 x1.K), .lit (.int .i64 x1.V)])] [.lst 1 x0.In, .lst 1 x0.Out] = some ((T115 x0 x1).map (n115 x0 x1)) := by kernel_rfl
noncomputable def q115 : List SV → List Blk → Option ((SV × List Blk) × Bool)
  | [(.agg [.lit (.int .i64 c0), .lit (.int .i64 c1), .lit (.bool c2), .sl 0 0 l0, .sl 1 0 l1, .lit (.int .i64 c3)]), (.agg [.lit (.int .i64 c4), .lit (.int .i64 c5), .lit (.int .i64 c6)])], [.lst 1 c_0, .lst 1 c_1] => some (n115 (GDevice.mk c0 c1 c2 c_0 c_1 c3) (GDevStep.mk c4 c5 c6) (g115 (GDevice.mk c0 c1 c2 c_0 c_1 c3) (GDevStep.mk c4 c5 c6)), eqN l0 (List.length c_0) && (eqN l1 (List.length c_1) && (k115 (GDevice.mk c0 c1 c2 c_0 c_1 c3) (GDevStep.mk c4 c5 c6))))
  | _, _ => none
theorem t115 (args : List SV) (hp : List Blk) (r : SV × List Blk) (h : q115 args hp = some (r, true)) : frzR R 115 args hp = some r := by
  unfold q115 at h
  split at h
  · rename_i c0 c1 c2 l0 l1 c3 c4 c5 c6 c_0 c_1
    obtain ⟨hr, hk⟩ := Prod.mk.inj (Option.some.inj h)
    obtain ⟨d0, hk0⟩ := and_t hk
    obtain ⟨d1, hk1⟩ := and_t hk0
    obtain rfl := of_decide_eq_true d0
    obtain rfl := of_decide_eq_true d1
    exact (frz_lo (by decide)).trans (R_fn at115 2097152 (fnP_c Q134_ok (loops_of (l := []) rfl trivial) (e115 (GDevice.mk c0 c1 c2 c_0 c_1 c3) (GDevStep.mk c4 c5 c6)) hr hk1))
  · simp at h
noncomputable def Q115 : Qt := qcons 115 q115 Q134
theorem Q115_ok : QOk (frzR R) Q115 := qcons_ok t115 Q134_ok
/-! spec.l5Own -/
noncomputable def y116_0 (x0 : GDevice) : Bool := ((eqN (List.length x0.In) (List.length x0.In)) && ((eqN (List.length x0.Out) (List.length x0.Out)) && true))
noncomputable def T116 (x0 : GDevice) : Pt (GDevice) := (.ok true (.ok (((leN (mulN (0 + (List.length x0.In)) 8) 140737488355328) && (leN (0 + (List.length x0.In)) 140737488355328)) && true) (.ok (((leN (mulN (0 + (List.length x0.Out)) 8) 140737488355328) && (leN (0 + (List.length x0.Out)) 140737488355328)) && true) (.ok true (.ok ((y116_0 x0) && ((y116_0 x0) && true)) (.leaf x0))))))
noncomputable def g116 (x0 : GDevice) : GDevice := hid (T116 x0).val
noncomputable def k116 (x0 : GDevice) : Bool := hid (T116 x0).okv
noncomputable def n116 (x0 : GDevice) (r : GDevice) : SV × List Blk := ((.agg [.lit (.int .i64 r.Every), .lit (.int .i64 r.Left), .lit (.bool r.Rung), .sl 0 0 (List.length r.In), .sl 1 0 (List.length r.Out), .lit (.int .i64 r.Lost)]), [.lst 1 r.In, .lst 1 r.Out])
theorem e116 (x0 : GDevice) (p0 : Bool) (p1 : Bool) : fnP Q115 [(5, [.imm 1]), (10, [.imm 1]), (13, [.int .i64, .int .i64, .bool, .imm 1, .imm 1, .int .i64])] [] true [] 2097152 F116 [(.agg [.lit (.int .i64 x0.Every), .lit (.int .i64 x0.Left), .lit (.bool x0.Rung), .imm p0 1 x0.In, .imm p1 1 x0.Out, .lit (.int .i64 x0.Lost)])] [] = some ((T116 x0).map (n116 x0)) := by kernel_rfl
noncomputable def q116 : List SV → List Blk → Option ((SV × List Blk) × Bool)
  | [(.agg [.lit (.int .i64 c0), .lit (.int .i64 c1), .lit (.bool c2), .imm p0 1 c3, .imm p1 1 c4, .lit (.int .i64 c5)])], [] => some (n116 (GDevice.mk c0 c1 c2 c3 c4 c5) (g116 (GDevice.mk c0 c1 c2 c3 c4 c5)), k116 (GDevice.mk c0 c1 c2 c3 c4 c5))
  | _, _ => none
theorem t116 (args : List SV) (hp : List Blk) (r : SV × List Blk) (h : q116 args hp = some (r, true)) : frzR R 116 args hp = some r := by
  unfold q116 at h
  split at h
  · rename_i c0 c1 c2 p0 c3 p1 c4 c5
    obtain ⟨hr, hk⟩ := Prod.mk.inj (Option.some.inj h)
    exact (frz_lo (by decide)).trans (R_fn at116 2097152 (fnP_c Q115_ok (loops_of (l := []) rfl trivial) (e116 (GDevice.mk c0 c1 c2 c3 c4 c5) p0 p1) hr hk))
  · simp at h
noncomputable def Q116 : Qt := qcons 116 q116 Q115
theorem Q116_ok : QOk (frzR R) Q116 := qcons_ok t116 Q115_ok
/-! spec.PlayDevice -/
structure V34_0 where
  mk ::
  (b0 : GDevice)
  (b1 : GDevice)
  (s6 : List Row)
  (s16 : List Row)
  (s17 : Int)
  (s18 : Int)
noncomputable def y34_0_l_0 (v : V34_0) : Bool := (eqN (List.length v.b1.In) (List.length v.b1.In))
noncomputable def y34_0_l_1 (v : V34_0) : Bool := (eqN (List.length v.b1.Out) (List.length v.b1.Out))
noncomputable def y34_0_l_2 (v : V34_0) : Bool := ((y34_0_l_0 v) && ((y34_0_l_1 v) && true))
noncomputable def y34_0_l_3 (v : V34_0) : Bool := (eqN (List.length v.b0.In) (List.length v.b0.In))
noncomputable def y34_0_l_4 (v : V34_0) : Bool := (eqN (List.length v.b0.Out) (List.length v.b0.Out))
noncomputable def y34_0_l_5 (v : V34_0) : GDevice × Int := (g115 v.b1 (GDevStep.at v.s16 (Int.toNat v.s18) 0))
noncomputable def y34_0_l_6 (v : V34_0) : Bool := (eqN (List.length (y34_0_l_5 v).1.In) (List.length (y34_0_l_5 v).1.In))
noncomputable def y34_0_l_7 (v : V34_0) : Bool := (eqN (List.length (y34_0_l_5 v).1.Out) (List.length (y34_0_l_5 v).1.Out))
noncomputable def y34_0_l_8 (v : V34_0) : Nat := (List.length (v.s6 ++ [(rowI (y34_0_l_5 v).2)]))
noncomputable def y34_0_l_9 (v : V34_0) : Bool := ((eqN (y34_0_l_8 v) (y34_0_l_8 v)) && true)
noncomputable def N34_0 (v : V34_0) : Pt (Option V34_0) := (.ok true (.br (ltI v.s18 v.s17) (.ok ((inRow [.int .i64, .int .i64, .int .i64] v.s16 v.s18) && true) (.ok ((k114 (GDevStep.at v.s16 (Int.toNat v.s18) 0)) && true) (.br (!(g114 (GDevStep.at v.s16 (Int.toNat v.s18) 0))) (.ok true (.leaf none)) (.ok ((((y34_0_l_2 v) && ((y34_0_l_2 v) && true)) && ((y34_0_l_0 v) && ((y34_0_l_1 v) && (k115 v.b1 (GDevStep.at v.s16 (Int.toNat v.s18) 0))))) && true) (.ok true (.ok (((eqN (List.length v.s6) (List.length v.s6)) && ((eqN (0 + (List.length v.s6)) (List.length v.s6)) && ((leN (mulN ((List.length v.s6) + 1) 8) 140737488355328) && (leN ((List.length v.s6) + 1) 140737488355328)))) && true) (.ok true (.ok ((((y34_0_l_3 v) && ((y34_0_l_4 v) && true)) && (((y34_0_l_6 v) && ((y34_0_l_7 v) && true)) && ((y34_0_l_3 v) && ((y34_0_l_4 v) && ((y34_0_l_6 v) && ((y34_0_l_7 v) && (y34_0_l_9 v))))))) && (y34_0_l_9 v)) (.leaf (some { v with b1 := (y34_0_l_5 v).1, s6 := (v.s6 ++ [(rowI (y34_0_l_5 v).2)]), s18 := (addI v.s18 1) })))))))))) (.leaf none)))
noncomputable def s34_0 (v : V34_0) : St := ⟨[(2, (.one (.ptr 0 0 0))), (5, (.one (.ptr 1 0 0))), (6, (.one (.sl 6 0 (List.length v.s6)))), (16, (.one (.imm true 3 v.s16))), (17, (.one (.lit (.int .i64 v.s17)))), (18, (.one (.lit (.int .i64 v.s18))))], [.box [.lit (.int .i64 v.b0.Every), .lit (.int .i64 v.b0.Left), .lit (.bool v.b0.Rung), .sl 2 0 (List.length v.b0.In), .sl 3 0 (List.length v.b0.Out), .lit (.int .i64 v.b0.Lost)], .box [.lit (.int .i64 v.b1.Every), .lit (.int .i64 v.b1.Left), .lit (.bool v.b1.Rung), .sl 4 0 (List.length v.b1.In), .sl 5 0 (List.length v.b1.Out), .lit (.int .i64 v.b1.Lost)], .lst 1 v.b0.In, .lst 1 v.b0.Out, .lst 1 v.b1.In, .lst 1 v.b1.Out, .lst 1 v.s6]⟩
def u34_0 : St → Option (V34_0 × Bool)
  | ⟨[(2, (.one (.ptr 0 0 0))), (5, (.one (.ptr 1 0 0))), (6, (.one (.sl 6 0 l6))), (16, (.one (.imm true 3 c8))), (17, (.one (.lit (.int .i64 c9)))), (18, (.one (.lit (.int .i64 c10))))], [.box [.lit (.int .i64 c0), .lit (.int .i64 c1), .lit (.bool c2), .sl 2 0 l2, .sl 3 0 l3, .lit (.int .i64 c3)], .box [.lit (.int .i64 c4), .lit (.int .i64 c5), .lit (.bool c6), .sl 4 0 l4, .sl 5 0 l5, .lit (.int .i64 c7)], .lst 1 c_2, .lst 1 c_3, .lst 1 c_4, .lst 1 c_5, .lst 1 c_6]⟩ => some ((V34_0.mk (GDevice.mk c0 c1 c2 c_2 c_3 c3) (GDevice.mk c4 c5 c6 c_4 c_5 c7) c_6 c8 c9 c10), eqN l2 (List.length c_2) && (eqN l3 (List.length c_3) && (eqN l4 (List.length c_4) && (eqN l5 (List.length c_5) && (eqN l6 (List.length c_6) && (true))))))
  | _ => none
theorem hN34_0 (v : V34_0) : ((evp Q115 [(20, [.int .i64, .int .i64, .int .i64]), (21, [.int .i64, .int .i64, .int .i64]), (22, [.int .i64, .int .i64, .int .i64]), (27, [.int .i64, .int .i64, .bool, .imm 1, .imm 1, .int .i64]), (28, [.int .i64, .int .i64, .int .i64]), (32, [.int .i64, .int .i64, .bool, .imm 1, .imm 1, .int .i64]), (38, [.int .i64, .int .i64, .bool, .imm 1, .imm 1, .int .i64])] [] true [] 0 2097152 F34b0 (s34_0 v)).bind (stpT true 0 [2, 5, 6, 16, 17, 18])) = some ((N34_0 v).map (Option.map s34_0)) := by kernel_rfl
theorem hu34_0 (σ : St) (v : V34_0) (h : u34_0 σ = some (v, true)) : σ = s34_0 v := by
  unfold u34_0 at h
  split at h
  · obtain ⟨hr, hk⟩ := Prod.mk.inj (Option.some.inj h)
    obtain ⟨d0, hk0⟩ := and_t hk
    obtain ⟨d1, hk1⟩ := and_t hk0
    obtain ⟨d2, hk2⟩ := and_t hk1
    obtain ⟨d3, hk3⟩ := and_t hk2
    obtain ⟨d4, hk4⟩ := and_t hk3
    obtain rfl := of_decide_eq_true d0
    obtain rfl := of_decide_eq_true d1
    obtain rfl := of_decide_eq_true d2
    obtain rfl := of_decide_eq_true d3
    obtain rfl := of_decide_eq_true d4
    rw [← hr]
    rfl
  · simp at h
theorem lt34_0 : TellsP (lqP true 0 [2, 5, 6, 16, 17, 18] (evp Q115 [(20, [.int .i64, .int .i64, .int .i64]), (21, [.int .i64, .int .i64, .int .i64]), (22, [.int .i64, .int .i64, .int .i64]), (27, [.int .i64, .int .i64, .bool, .imm 1, .imm 1, .int .i64]), (28, [.int .i64, .int .i64, .int .i64]), (32, [.int .i64, .int .i64, .bool, .imm 1, .imm 1, .int .i64]), (38, [.int .i64, .int .i64, .bool, .imm 1, .imm 1, .int .i64])] [] true [] 0 2097152 F34b0) u34_0 s34_0 N34_0 2097152) (evc R 0 2097152 (.loop [2, 5, 6, 16, 17, 18] F34b0)) := lqP_tells (evp_tells Q115_ok (loops_of (l := []) (by kernel_rfl) trivial)) hu34_0 hN34_0
noncomputable def lq34_0 : Lp := (19, lqP true 0 [2, 5, 6, 16, 17, 18] (evp Q115 [(20, [.int .i64, .int .i64, .int .i64]), (21, [.int .i64, .int .i64, .int .i64]), (22, [.int .i64, .int .i64, .int .i64]), (27, [.int .i64, .int .i64, .bool, .imm 1, .imm 1, .int .i64]), (28, [.int .i64, .int .i64, .int .i64]), (32, [.int .i64, .int .i64, .bool, .imm 1, .imm 1, .int .i64]), (38, [.int .i64, .int .i64, .bool, .imm 1, .imm 1, .int .i64])] [] true [] 0 2097152 F34b0) u34_0 s34_0 N34_0 2097152) :: []
noncomputable def w34_0 (v : V34_0) : V34_0 := (hid (loopV N34_0 2097152 v)).getD v
noncomputable def i34_0 (v : V34_0) : Bool := (hid (loopV N34_0 2097152 v)).isSome
noncomputable def y34_0 : Bool := ((eqN (List.length (g60).In) (List.length (g60).In)) && ((eqN (List.length (g60).Out) (List.length (g60).Out)) && true))
noncomputable def y34_1 (x0 : List Row) : V34_0 := (w34_0 (V34_0.mk (GDevice.mk 0 0 false [] [] 0) (g60) [] x0 (lenI x0) 0))
noncomputable def y34_2 (x0 : List Row) : Bool := (eqN (List.length (g116 (y34_1 x0).b1).In) (List.length (g116 (y34_1 x0).b1).In))
noncomputable def y34_3 (x0 : List Row) : Bool := (eqN (List.length (g116 (y34_1 x0).b1).Out) (List.length (g116 (y34_1 x0).b1).Out))
noncomputable def y34_4 (x0 : List Row) : Bool := ((eqN (List.length (y34_1 x0).s6) (List.length (y34_1 x0).s6)) && true)
noncomputable def y34_5 (x0 : List Row) : Bool := (((y34_2 x0) && ((y34_3 x0) && true)) && (y34_4 x0))
noncomputable def T34 (x0 : List Row) : Pt (GDevice × List Row × Bool) := (.ok true (.ok true (.br (gtI (lenI x0) 80) (.ok true (.ok true (.ok true (.leaf ((GDevice.mk 0 0 false [] [] 0), [], false))))) (.ok ((k60) && true) (.ok true (.ok true (.ok ((y34_0 && y34_0) && true) (.ok y34_0 (.ok (i34_0 (V34_0.mk (GDevice.mk 0 0 false [] [] 0) (g60) [] x0 (lenI x0) 0)) (.br (ltI (y34_1 x0).s18 (y34_1 x0).s17) (.ok true (.ok true (.leaf ((GDevice.mk 0 0 false [] [] 0), [], false)))) (.ok (((((eqN (List.length (y34_1 x0).b1.In) (List.length (y34_1 x0).b1.In)) && ((eqN (List.length (y34_1 x0).b1.Out) (List.length (y34_1 x0).b1.Out)) && true)) && true) && (k116 (y34_1 x0).b1)) && true) (.ok (((y34_2 x0) && ((y34_3 x0) && (y34_4 x0))) && (y34_5 x0)) (.ok (y34_5 x0) (.leaf ((g116 (y34_1 x0).b1), (y34_1 x0).s6, true)))))))))))))))
noncomputable def g34 (x0 : List Row) : GDevice × List Row × Bool := hid (T34 x0).val
noncomputable def k34 (x0 : List Row) : Bool := hid (T34 x0).okv
noncomputable def n34 (x0 : List Row) (r : GDevice × List Row × Bool) : SV × List Blk := ((.tup [(.agg [.lit (.int .i64 r.1.Every), .lit (.int .i64 r.1.Left), .lit (.bool r.1.Rung), .imm true 1 r.1.In, .imm true 1 r.1.Out, .lit (.int .i64 r.1.Lost)]), (.one (.imm true 1 r.2.1)), (.one (.lit (.bool r.2.2)))]), [])
theorem e34 (x0 : List Row) : fnZ Q116 [(20, [.int .i64, .int .i64, .int .i64]), (21, [.int .i64, .int .i64, .int .i64]), (22, [.int .i64, .int .i64, .int .i64]), (27, [.int .i64, .int .i64, .bool, .imm 1, .imm 1, .int .i64]), (28, [.int .i64, .int .i64, .int .i64]), (32, [.int .i64, .int .i64, .bool, .imm 1, .imm 1, .int .i64]), (38, [.int .i64, .int .i64, .bool, .imm 1, .imm 1, .int .i64])] [] true lq34_0 2097152 F34 [(.one (.imm true 3 x0))] = some ((T34 x0).map (n34 x0)) := by kernel_rfl
noncomputable def q34 : List SV → List Blk → Option ((SV × List Blk) × Bool)
  | [(.one (.imm true 3 c0))], [] => some (n34 c0 (g34 c0), k34 c0)
  | _, _ => none
theorem hL34 : Loops (fun live x => TellsP (lpAt lq34_0 (tagC x)) (evc R 0 2097152 (.loop live x))) F34.body := (loops_of (l := [([2, 5, 6, 16, 17, 18], F34b0)]) (by kernel_rfl) ⟨fun σ σr t h ho hl => lt34_0 σ σr t h ho hl, trivial⟩)
theorem t34 (args : List SV) (hp : List Blk) (r : SV × List Blk) (h : q34 args hp = some (r, true)) : frzR R 100034 args hp = some r := by
  unfold q34 at h
  split at h
  · rename_i c0
    obtain ⟨hr, hk⟩ := Prod.mk.inj (Option.some.inj h)
    exact fnZ_c (f := 34) Q116_ok hL34 (e34 c0) hr hk (fun r h => R_fn at34 2097152 h)
  · simp at h
noncomputable def Q34 : Qt := qcons 100034 q34 Q116
theorem Q34_ok : QOk (frzR R) Q34 := qcons_ok t34 Q116_ok
/-! laws.sameInts -/
structure V20_0 where
  mk ::
  (s0 : List Row)
  (s1 : List Row)
  (s12 : Int)
  (s13 : Int)
noncomputable def N20_0 (v : V20_0) : Pt (Option V20_0) := (.ok true (.br (ltI v.s13 v.s12) (.ok true (.ok ((inRow [.int .i64] v.s0 v.s13) && ((inRow [.int .i64] v.s1 v.s13) && true)) (.br (neI (intAt v.s0 (Int.toNat v.s13) 0) (intAt v.s1 (Int.toNat v.s13) 0)) (.ok true (.leaf none)) (.ok true (.ok true (.leaf (some { v with s13 := (addI v.s13 1) }))))))) (.leaf none)))
noncomputable def s20_0 (v : V20_0) : St := ⟨[(0, (.one (.imm true 1 v.s0))), (1, (.one (.imm true 1 v.s1))), (12, (.one (.lit (.int .i64 v.s12)))), (13, (.one (.lit (.int .i64 v.s13))))], []⟩
def u20_0 : St → Option (V20_0 × Bool)
  | ⟨[(0, (.one (.imm true 1 c0))), (1, (.one (.imm true 1 c1))), (12, (.one (.lit (.int .i64 c2)))), (13, (.one (.lit (.int .i64 c3))))], []⟩ => some ((V20_0.mk c0 c1 c2 c3), true)
  | _ => none
theorem hN20_0 (v : V20_0) : ((evp Q34 [(18, [.int .i64]), (19, [.int .i64]), (22, [.int .i64]), (23, [.int .i64])] [] true [] 0 2097152 F20b0 (s20_0 v)).bind (stpT true 0 [0, 1, 12, 13])) = some ((N20_0 v).map (Option.map s20_0)) := by kernel_rfl
theorem hu20_0 (σ : St) (v : V20_0) (h : u20_0 σ = some (v, true)) : σ = s20_0 v := by
  unfold u20_0 at h
  split at h
  · obtain ⟨hr, hk⟩ := Prod.mk.inj (Option.some.inj h)
    rw [← hr]
    rfl
  · simp at h
theorem lt20_0 : TellsP (lqP true 0 [0, 1, 12, 13] (evp Q34 [(18, [.int .i64]), (19, [.int .i64]), (22, [.int .i64]), (23, [.int .i64])] [] true [] 0 2097152 F20b0) u20_0 s20_0 N20_0 2097152) (evc R 0 2097152 (.loop [0, 1, 12, 13] F20b0)) := lqP_tells (evp_tells Q34_ok (loops_of (l := []) (by kernel_rfl) trivial)) hu20_0 hN20_0
noncomputable def lq20_0 : Lp := (14, lqP true 0 [0, 1, 12, 13] (evp Q34 [(18, [.int .i64]), (19, [.int .i64]), (22, [.int .i64]), (23, [.int .i64])] [] true [] 0 2097152 F20b0) u20_0 s20_0 N20_0 2097152) :: []
noncomputable def w20_0 (v : V20_0) : V20_0 := (hid (loopV N20_0 2097152 v)).getD v
noncomputable def i20_0 (v : V20_0) : Bool := (hid (loopV N20_0 2097152 v)).isSome
noncomputable def y20_0 (x0 : List Row) (x1 : List Row) : V20_0 := (w20_0 (V20_0.mk x0 x1 (lenI x0) 0))
noncomputable def T20 (x0 : List Row) (x1 : List Row) : Pt (Bool) := (.ok true (.ok true (.br (neI (lenI x0) (lenI x1)) (.ok true (.ok true (.ok true (.leaf false)))) (.ok true (.ok true (.ok true (.ok (i20_0 (V20_0.mk x0 x1 (lenI x0) 0)) (.br (ltI (y20_0 x0 x1).s13 (y20_0 x0 x1).s12) (.ok true (.ok true (.leaf false))) (.ok true (.ok true (.ok true (.leaf true))))))))))))
noncomputable def g20 (x0 : List Row) (x1 : List Row) : Bool := hid (T20 x0 x1).val
noncomputable def k20 (x0 : List Row) (x1 : List Row) : Bool := hid (T20 x0 x1).okv
noncomputable def n20 (x0 : List Row) (x1 : List Row) (r : Bool) : SV × List Blk := ((.one (.lit (.bool r))), [])
theorem e20 (x0 : List Row) (x1 : List Row) : fnZ Q34 [(18, [.int .i64]), (19, [.int .i64]), (22, [.int .i64]), (23, [.int .i64])] [] true lq20_0 2097152 F20 [(.one (.imm true 1 x0)), (.one (.imm true 1 x1))] = some ((T20 x0 x1).map (n20 x0 x1)) := by kernel_rfl
noncomputable def q20 : List SV → List Blk → Option ((SV × List Blk) × Bool)
  | [(.one (.imm true 1 c0)), (.one (.imm true 1 c1))], [] => some (n20 c0 c1 (g20 c0 c1), k20 c0 c1)
  | _, _ => none
theorem hL20 : Loops (fun live x => TellsP (lpAt lq20_0 (tagC x)) (evc R 0 2097152 (.loop live x))) F20.body := (loops_of (l := [([0, 1, 12, 13], F20b0)]) (by kernel_rfl) ⟨fun σ σr t h ho hl => lt20_0 σ σr t h ho hl, trivial⟩)
theorem t20 (args : List SV) (hp : List Blk) (r : SV × List Blk) (h : q20 args hp = some (r, true)) : frzR R 100020 args hp = some r := by
  unfold q20 at h
  split at h
  · rename_i c0 c1
    obtain ⟨hr, hk⟩ := Prod.mk.inj (Option.some.inj h)
    exact fnZ_c (f := 20) Q34_ok hL20 (e20 c0 c1) hr hk (fun r h => R_fn at20 2097152 h)
  · simp at h
noncomputable def Q20 : Qt := qcons 100020 q20 Q34
theorem Q20_ok : QOk (frzR R) Q20 := qcons_ok t20 Q34_ok
/-! laws.sameDevices -/
noncomputable def y35_0 (x0 : GDevice) (x1 : GDevice) : Bool := (bif (bif (bif (eqI x0.Every x1.Every) then (eqI x0.Left x1.Left) else false) then (eqB x0.Rung x1.Rung) else false) then (eqI x0.Lost x1.Lost) else false)
noncomputable def y35_1 (x0 : GDevice) (x1 : GDevice) : Bool := (bif (y35_0 x0 x1) then (g20 x0.In x1.In) else false)
noncomputable def T35 (x0 : GDevice) (x1 : GDevice) : Pt (Bool) := (.ok true (.ok ((((k20 x0.In x1.In) && true) || (!(y35_0 x0 x1))) && ((((k20 x0.Out x1.Out) && true) || (!(y35_1 x0 x1))) && true)) (.ok true (.ok true (.leaf (bif (y35_1 x0 x1) then (g20 x0.Out x1.Out) else false))))))
noncomputable def g35 (x0 : GDevice) (x1 : GDevice) : Bool := hid (T35 x0 x1).val
noncomputable def k35 (x0 : GDevice) (x1 : GDevice) : Bool := hid (T35 x0 x1).okv
noncomputable def n35 (x0 : GDevice) (x1 : GDevice) (r : Bool) : SV × List Blk := ((.one (.lit (.bool r))), [])
theorem e35 (x0 : GDevice) (x1 : GDevice) : fnZ Q20 [(6, [.int .i64]), (8, [.int .i64]), (12, [.int .i64]), (14, [.int .i64]), (19, [.bool]), (21, [.bool]), (26, [.int .i64]), (28, [.int .i64]), (33, [.imm 1]), (35, [.imm 1]), (40, [.imm 1]), (42, [.imm 1])] [] true [] 2097152 F35 [(.agg [.lit (.int .i64 x0.Every), .lit (.int .i64 x0.Left), .lit (.bool x0.Rung), .imm true 1 x0.In, .imm true 1 x0.Out, .lit (.int .i64 x0.Lost)]), (.agg [.lit (.int .i64 x1.Every), .lit (.int .i64 x1.Left), .lit (.bool x1.Rung), .imm true 1 x1.In, .imm true 1 x1.Out, .lit (.int .i64 x1.Lost)])] = some ((T35 x0 x1).map (n35 x0 x1)) := by kernel_rfl
noncomputable def q35 : List SV → List Blk → Option ((SV × List Blk) × Bool)
  | [(.agg [.lit (.int .i64 c0), .lit (.int .i64 c1), .lit (.bool c2), .imm true 1 c3, .imm true 1 c4, .lit (.int .i64 c5)]), (.agg [.lit (.int .i64 c6), .lit (.int .i64 c7), .lit (.bool c8), .imm true 1 c9, .imm true 1 c10, .lit (.int .i64 c11)])], [] => some (n35 (GDevice.mk c0 c1 c2 c3 c4 c5) (GDevice.mk c6 c7 c8 c9 c10 c11) (g35 (GDevice.mk c0 c1 c2 c3 c4 c5) (GDevice.mk c6 c7 c8 c9 c10 c11)), k35 (GDevice.mk c0 c1 c2 c3 c4 c5) (GDevice.mk c6 c7 c8 c9 c10 c11))
  | _, _ => none
theorem t35 (args : List SV) (hp : List Blk) (r : SV × List Blk) (h : q35 args hp = some (r, true)) : frzR R 100035 args hp = some r := by
  unfold q35 at h
  split at h
  · rename_i c0 c1 c2 c3 c4 c5 c6 c7 c8 c9 c10 c11
    obtain ⟨hr, hk⟩ := Prod.mk.inj (Option.some.inj h)
    exact fnZ_c (f := 35) Q20_ok (loops_of (l := []) rfl trivial) (e35 (GDevice.mk c0 c1 c2 c3 c4 c5) (GDevice.mk c6 c7 c8 c9 c10 c11)) hr hk (fun r h => R_fn at35 2097152 h)
  · simp at h
noncomputable def Q35 : Qt := qcons 100035 q35 Q20
theorem Q35_ok : QOk (frzR R) Q35 := qcons_ok t35 Q20_ok
/-! impl.areBytes$1 -/
noncomputable def T148 (x0 : Int) : Pt (Bool) := (.ok true (.ok ((k74 x0 0 255) && true) (.ok true (.leaf (!(g74 x0 0 255))))))
noncomputable def g148 (x0 : Int) : Bool := hid (T148 x0).val
noncomputable def k148 (x0 : Int) : Bool := hid (T148 x0).okv
noncomputable def n148 (x0 : Int) (r : Bool) : SV × List Blk := ((.one (.lit (.bool r))), [])
theorem e148 (x0 : Int) : fnP Q35 [] [] true [] 2097152 F148 [(.one (.lit (.int .i64 x0)))] [] = some ((T148 x0).map (n148 x0)) := by kernel_rfl
noncomputable def q148 : List SV → List Blk → Option ((SV × List Blk) × Bool)
  | [(.one (.lit (.int .i64 c0)))], [] => some (n148 c0 (g148 c0), k148 c0)
  | _, _ => none
theorem t148 (args : List SV) (hp : List Blk) (r : SV × List Blk) (h : q148 args hp = some (r, true)) : frzR R 148 args hp = some r := by
  unfold q148 at h
  split at h
  · rename_i c0
    obtain ⟨hr, hk⟩ := Prod.mk.inj (Option.some.inj h)
    exact (frz_lo (by decide)).trans (R_fn at148 2097152 (fnP_c Q35_ok (loops_of (l := []) rfl trivial) (e148 c0) hr hk))
  · simp at h
noncomputable def Q148 : Qt := qcons 148 q148 Q35
theorem Q148_ok : QOk (frzR R) Q148 := qcons_ok t148 Q35_ok
/-! slices.IndexFunc[[]int,int] -/
structure V149_0 where
  mk ::
  (s0 : List Row)
  (s7 : Int)
  (s8 : Int)
noncomputable def N149_0 (v : V149_0) : Pt (Option V149_0) := (.ok true (.br (ltI v.s8 v.s7) (.ok true (.ok ((inRow [.int .i64] v.s0 v.s8) && ((k148 (intAt v.s0 (Int.toNat v.s8) 0)) && true)) (.br (g148 (intAt v.s0 (Int.toNat v.s8) 0)) (.ok true (.leaf none)) (.ok true (.ok true (.leaf (some { v with s8 := (addI v.s8 1) }))))))) (.leaf none)))
noncomputable def s149_0 (v : V149_0) : St := ⟨[(0, (.one (.imm true 1 v.s0))), (1, (.one (.clo 148 []))), (7, (.one (.lit (.int .i64 v.s7)))), (8, (.one (.lit (.int .i64 v.s8))))], []⟩
def u149_0 : St → Option (V149_0 × Bool)
  | ⟨[(0, (.one (.imm true 1 c0))), (1, (.one (.clo 148 []))), (7, (.one (.lit (.int .i64 c1)))), (8, (.one (.lit (.int .i64 c2))))], []⟩ => some ((V149_0.mk c0 c1 c2), true)
  | _ => none
theorem hN149_0 (v : V149_0) : ((evp Q148 [(14, [.int .i64]), (15, [.int .i64])] [] true [] 0 2097152 F149b0 (s149_0 v)).bind (stpT true 0 [0, 1, 7, 8])) = some ((N149_0 v).map (Option.map s149_0)) := by kernel_rfl
theorem hu149_0 (σ : St) (v : V149_0) (h : u149_0 σ = some (v, true)) : σ = s149_0 v := by
  unfold u149_0 at h
  split at h
  · obtain ⟨hr, hk⟩ := Prod.mk.inj (Option.some.inj h)
    rw [← hr]
    rfl
  · simp at h
theorem lt149_0 : TellsP (lqP true 0 [0, 1, 7, 8] (evp Q148 [(14, [.int .i64]), (15, [.int .i64])] [] true [] 0 2097152 F149b0) u149_0 s149_0 N149_0 2097152) (evc R 0 2097152 (.loop [0, 1, 7, 8] F149b0)) := lqP_tells (evp_tells Q148_ok (loops_of (l := []) (by kernel_rfl) trivial)) hu149_0 hN149_0
noncomputable def lq149_0 : Lp := (9, lqP true 0 [0, 1, 7, 8] (evp Q148 [(14, [.int .i64]), (15, [.int .i64])] [] true [] 0 2097152 F149b0) u149_0 s149_0 N149_0 2097152) :: []
noncomputable def w149_0 (v : V149_0) : V149_0 := (hid (loopV N149_0 2097152 v)).getD v
noncomputable def i149_0 (v : V149_0) : Bool := (hid (loopV N149_0 2097152 v)).isSome
noncomputable def y149_0 (x0 : List Row) : V149_0 := (w149_0 (V149_0.mk x0 (lenI x0) 0))
noncomputable def T149 (x0 : List Row) : Pt (Int) := (.ok true (.ok true (.ok true (.ok true (.ok (i149_0 (V149_0.mk x0 (lenI x0) 0)) (.br (ltI (y149_0 x0).s8 (y149_0 x0).s7) (.ok true (.leaf (y149_0 x0).s8)) (.ok true (.ok true (.leaf (-1))))))))))
noncomputable def g149 (x0 : List Row) : Int := hid (T149 x0).val
noncomputable def k149 (x0 : List Row) : Bool := hid (T149 x0).okv
noncomputable def n149 (x0 : List Row) (r : Int) : SV × List Blk := ((.one (.lit (.int .i64 r))), [])
theorem e149 (x0 : List Row) : fnP Q148 [(14, [.int .i64]), (15, [.int .i64])] [] true lq149_0 2097152 F149 [(.one (.imm true 1 x0)), (.one (.clo 148 []))] [] = some ((T149 x0).map (n149 x0)) := by kernel_rfl
noncomputable def q149 : List SV → List Blk → Option ((SV × List Blk) × Bool)
  | [(.one (.imm true 1 c0)), (.one (.clo 148 []))], [] => some (n149 c0 (g149 c0), k149 c0)
  | _, _ => none
theorem hL149 : Loops (fun live x => TellsP (lpAt lq149_0 (tagC x)) (evc R 0 2097152 (.loop live x))) F149.body := (loops_of (l := [([0, 1, 7, 8], F149b0)]) (by kernel_rfl) ⟨fun σ σr t h ho hl => lt149_0 σ σr t h ho hl, trivial⟩)
theorem t149 (args : List SV) (hp : List Blk) (r : SV × List Blk) (h : q149 args hp = some (r, true)) : frzR R 149 args hp = some r := by
  unfold q149 at h
  split at h
  · rename_i c0
    obtain ⟨hr, hk⟩ := Prod.mk.inj (Option.some.inj h)
    exact (frz_lo (by decide)).trans (R_fn at149 2097152 (fnP_c Q148_ok hL149 (e149 c0) hr hk))
  · simp at h
noncomputable def Q149 : Qt := qcons 149 q149 Q148
theorem Q149_ok : QOk (frzR R) Q149 := qcons_ok t149 Q148_ok
/-! slices.ContainsFunc[[]int,int] -/
noncomputable def T86 (x0 : List Row) : Pt (Bool) := (.ok true (.ok ((k149 x0) && true) (.ok true (.leaf (geI (g149 x0) 0)))))
noncomputable def g86 (x0 : List Row) : Bool := hid (T86 x0).val
noncomputable def k86 (x0 : List Row) : Bool := hid (T86 x0).okv
noncomputable def n86 (x0 : List Row) (r : Bool) : SV × List Blk := ((.one (.lit (.bool r))), [])
theorem e86 (x0 : List Row) : fnP Q149 [] [] true [] 2097152 F86 [(.one (.imm true 1 x0)), (.one (.clo 148 []))] [] = some ((T86 x0).map (n86 x0)) := by kernel_rfl
noncomputable def q86 : List SV → List Blk → Option ((SV × List Blk) × Bool)
  | [(.one (.imm true 1 c0)), (.one (.clo 148 []))], [] => some (n86 c0 (g86 c0), k86 c0)
  | _, _ => none
theorem t86 (args : List SV) (hp : List Blk) (r : SV × List Blk) (h : q86 args hp = some (r, true)) : frzR R 86 args hp = some r := by
  unfold q86 at h
  split at h
  · rename_i c0
    obtain ⟨hr, hk⟩ := Prod.mk.inj (Option.some.inj h)
    exact (frz_lo (by decide)).trans (R_fn at86 2097152 (fnP_c Q149_ok (loops_of (l := []) rfl trivial) (e86 c0) hr hk))
  · simp at h
noncomputable def Q86 : Qt := qcons 86 q86 Q149
theorem Q86_ok : QOk (frzR R) Q86 := qcons_ok t86 Q149_ok
/-! impl.areBytes -/
noncomputable def T84 (x0 : List Row) (x1 : Int) : Pt (Bool) := (.ok true (.ok ((((k86 x0) && true) || (!(leI (lenI x0) x1))) && true) (.ok true (.ok true (.leaf (bif (leI (lenI x0) x1) then (!(g86 x0)) else false))))))
noncomputable def g84 (x0 : List Row) (x1 : Int) : Bool := hid (T84 x0 x1).val
noncomputable def k84 (x0 : List Row) (x1 : Int) : Bool := hid (T84 x0 x1).okv
noncomputable def n84 (x0 : List Row) (x1 : Int) (r : Bool) : SV × List Blk := ((.one (.lit (.bool r))), [])
theorem e84 (x0 : List Row) (x1 : Int) : fnZ Q86 [] [] true [] 2097152 F84 [(.one (.imm true 1 x0)), (.one (.lit (.int .i64 x1)))] = some ((T84 x0 x1).map (n84 x0 x1)) := by kernel_rfl
noncomputable def q84 : List SV → List Blk → Option ((SV × List Blk) × Bool)
  | [(.one (.imm true 1 c0)), (.one (.lit (.int .i64 c1)))], [] => some (n84 c0 c1 (g84 c0 c1), k84 c0 c1)
  | _, _ => none
theorem t84 (args : List SV) (hp : List Blk) (r : SV × List Blk) (h : q84 args hp = some (r, true)) : frzR R 100084 args hp = some r := by
  unfold q84 at h
  split at h
  · rename_i c0 c1
    obtain ⟨hr, hk⟩ := Prod.mk.inj (Option.some.inj h)
    exact fnZ_c (f := 84) Q86_ok (loops_of (l := []) rfl trivial) (e84 c0 c1) hr hk (fun r h => R_fn at84 2097152 h)
  · simp at h
noncomputable def Q84 : Qt := qcons 100084 q84 Q86
theorem Q84_ok : QOk (frzR R) Q84 := qcons_ok t84 Q86_ok
/-! impl.GoodDevice -/
noncomputable def y36_0 (x0 : GDevice) : Bool := (bif (g74 x0.Every 0 255) then (g74 x0.Left 0 x0.Every) else false)
noncomputable def y36_1 (x0 : GDevice) : Bool := (bif (y36_0 x0) then (g84 x0.In 4) else false)
noncomputable def y36_2 (x0 : GDevice) : Bool := (bif (y36_1 x0) then (g84 x0.Out 200) else false)
noncomputable def T36 (x0 : GDevice) : Pt (Bool) := (.ok true (.ok ((k74 x0.Every 0 255) && ((((k74 x0.Left 0 x0.Every) && true) || (!(g74 x0.Every 0 255))) && ((((k84 x0.In 4) && true) || (!(y36_0 x0))) && ((((k84 x0.Out 200) && true) || (!(y36_1 x0))) && ((((k74 x0.Lost 0 1000) && true) || (!(y36_2 x0))) && true))))) (.ok true (.ok true (.leaf (bif (y36_2 x0) then (g74 x0.Lost 0 1000) else false))))))
noncomputable def g36 (x0 : GDevice) : Bool := hid (T36 x0).val
noncomputable def k36 (x0 : GDevice) : Bool := hid (T36 x0).okv
noncomputable def n36 (x0 : GDevice) (r : Bool) : SV × List Blk := ((.one (.lit (.bool r))), [])
theorem e36 (x0 : GDevice) : fnZ Q84 [(4, [.int .i64]), (8, [.int .i64]), (10, [.int .i64]), (15, [.imm 1]), (20, [.imm 1]), (25, [.int .i64])] [] true [] 2097152 F36 [(.agg [.lit (.int .i64 x0.Every), .lit (.int .i64 x0.Left), .lit (.bool x0.Rung), .imm true 1 x0.In, .imm true 1 x0.Out, .lit (.int .i64 x0.Lost)])] = some ((T36 x0).map (n36 x0)) := by kernel_rfl
noncomputable def q36 : List SV → List Blk → Option ((SV × List Blk) × Bool)
  | [(.agg [.lit (.int .i64 c0), .lit (.int .i64 c1), .lit (.bool c2), .imm true 1 c3, .imm true 1 c4, .lit (.int .i64 c5)])], [] => some (n36 (GDevice.mk c0 c1 c2 c3 c4 c5) (g36 (GDevice.mk c0 c1 c2 c3 c4 c5)), k36 (GDevice.mk c0 c1 c2 c3 c4 c5))
  | _, _ => none
theorem t36 (args : List SV) (hp : List Blk) (r : SV × List Blk) (h : q36 args hp = some (r, true)) : frzR R 100036 args hp = some r := by
  unfold q36 at h
  split at h
  · rename_i c0 c1 c2 c3 c4 c5
    obtain ⟨hr, hk⟩ := Prod.mk.inj (Option.some.inj h)
    exact fnZ_c (f := 36) Q84_ok (loops_of (l := []) rfl trivial) (e36 (GDevice.mk c0 c1 c2 c3 c4 c5)) hr hk (fun r h => R_fn at36 2097152 h)
  · simp at h
noncomputable def Q36 : Qt := qcons 100036 q36 Q84
theorem Q36_ok : QOk (frzR R) Q36 := qcons_ok t36 Q84_ok
/-! spec.PlayDevice -/
structure V34v1_0 where
  mk ::
  (b0 : GDevice)
  (b1 : GDevice)
  (s6 : List Row)
  (s16 : List Row)
  (s17 : Int)
  (s18 : Int)
noncomputable def y34v1_0_l_0 (v : V34v1_0) : Bool := (eqN (List.length v.b1.In) (List.length v.b1.In))
noncomputable def y34v1_0_l_1 (v : V34v1_0) : Bool := (eqN (List.length v.b1.Out) (List.length v.b1.Out))
noncomputable def y34v1_0_l_2 (v : V34v1_0) : Bool := ((y34v1_0_l_0 v) && ((y34v1_0_l_1 v) && true))
noncomputable def y34v1_0_l_3 (v : V34v1_0) : Bool := (eqN (List.length v.b0.In) (List.length v.b0.In))
noncomputable def y34v1_0_l_4 (v : V34v1_0) : Bool := (eqN (List.length v.b0.Out) (List.length v.b0.Out))
noncomputable def y34v1_0_l_5 (v : V34v1_0) : GDevice × Int := (g115 v.b1 (GDevStep.at v.s16 (Int.toNat v.s18) 0))
noncomputable def y34v1_0_l_6 (v : V34v1_0) : Bool := (eqN (List.length (y34v1_0_l_5 v).1.In) (List.length (y34v1_0_l_5 v).1.In))
noncomputable def y34v1_0_l_7 (v : V34v1_0) : Bool := (eqN (List.length (y34v1_0_l_5 v).1.Out) (List.length (y34v1_0_l_5 v).1.Out))
noncomputable def y34v1_0_l_8 (v : V34v1_0) : Nat := (List.length (v.s6 ++ [(rowI (y34v1_0_l_5 v).2)]))
noncomputable def y34v1_0_l_9 (v : V34v1_0) : Bool := ((eqN (y34v1_0_l_8 v) (y34v1_0_l_8 v)) && true)
noncomputable def N34v1_0 (v : V34v1_0) : Pt (Option V34v1_0) := (.ok true (.br (ltI v.s18 v.s17) (.ok ((inRow [.int .i64, .int .i64, .int .i64] v.s16 v.s18) && true) (.ok ((k114 (GDevStep.at v.s16 (Int.toNat v.s18) 0)) && true) (.br (!(g114 (GDevStep.at v.s16 (Int.toNat v.s18) 0))) (.ok true (.leaf none)) (.ok ((((y34v1_0_l_2 v) && ((y34v1_0_l_2 v) && true)) && ((y34v1_0_l_0 v) && ((y34v1_0_l_1 v) && (k115 v.b1 (GDevStep.at v.s16 (Int.toNat v.s18) 0))))) && true) (.ok true (.ok (((eqN (List.length v.s6) (List.length v.s6)) && ((eqN (0 + (List.length v.s6)) (List.length v.s6)) && ((leN (mulN ((List.length v.s6) + 1) 8) 140737488355328) && (leN ((List.length v.s6) + 1) 140737488355328)))) && true) (.ok true (.ok ((((y34v1_0_l_3 v) && ((y34v1_0_l_4 v) && true)) && (((y34v1_0_l_6 v) && ((y34v1_0_l_7 v) && true)) && ((y34v1_0_l_3 v) && ((y34v1_0_l_4 v) && ((y34v1_0_l_6 v) && ((y34v1_0_l_7 v) && (y34v1_0_l_9 v))))))) && (y34v1_0_l_9 v)) (.leaf (some { v with b1 := (y34v1_0_l_5 v).1, s6 := (v.s6 ++ [(rowI (y34v1_0_l_5 v).2)]), s18 := (addI v.s18 1) })))))))))) (.leaf none)))
noncomputable def s34v1_0 (v : V34v1_0) : St := ⟨[(2, (.one (.ptr 0 0 0))), (5, (.one (.ptr 1 0 0))), (6, (.one (.sl 6 0 (List.length v.s6)))), (16, (.one (.imm false 3 v.s16))), (17, (.one (.lit (.int .i64 v.s17)))), (18, (.one (.lit (.int .i64 v.s18))))], [.box [.lit (.int .i64 v.b0.Every), .lit (.int .i64 v.b0.Left), .lit (.bool v.b0.Rung), .sl 2 0 (List.length v.b0.In), .sl 3 0 (List.length v.b0.Out), .lit (.int .i64 v.b0.Lost)], .box [.lit (.int .i64 v.b1.Every), .lit (.int .i64 v.b1.Left), .lit (.bool v.b1.Rung), .sl 4 0 (List.length v.b1.In), .sl 5 0 (List.length v.b1.Out), .lit (.int .i64 v.b1.Lost)], .lst 1 v.b0.In, .lst 1 v.b0.Out, .lst 1 v.b1.In, .lst 1 v.b1.Out, .lst 1 v.s6]⟩
def u34v1_0 : St → Option (V34v1_0 × Bool)
  | ⟨[(2, (.one (.ptr 0 0 0))), (5, (.one (.ptr 1 0 0))), (6, (.one (.sl 6 0 l6))), (16, (.one (.imm false 3 c8))), (17, (.one (.lit (.int .i64 c9)))), (18, (.one (.lit (.int .i64 c10))))], [.box [.lit (.int .i64 c0), .lit (.int .i64 c1), .lit (.bool c2), .sl 2 0 l2, .sl 3 0 l3, .lit (.int .i64 c3)], .box [.lit (.int .i64 c4), .lit (.int .i64 c5), .lit (.bool c6), .sl 4 0 l4, .sl 5 0 l5, .lit (.int .i64 c7)], .lst 1 c_2, .lst 1 c_3, .lst 1 c_4, .lst 1 c_5, .lst 1 c_6]⟩ => some ((V34v1_0.mk (GDevice.mk c0 c1 c2 c_2 c_3 c3) (GDevice.mk c4 c5 c6 c_4 c_5 c7) c_6 c8 c9 c10), eqN l2 (List.length c_2) && (eqN l3 (List.length c_3) && (eqN l4 (List.length c_4) && (eqN l5 (List.length c_5) && (eqN l6 (List.length c_6) && (true))))))
  | _ => none
theorem hN34v1_0 (v : V34v1_0) : ((evp Q36 [(20, [.int .i64, .int .i64, .int .i64]), (21, [.int .i64, .int .i64, .int .i64]), (22, [.int .i64, .int .i64, .int .i64]), (27, [.int .i64, .int .i64, .bool, .imm 1, .imm 1, .int .i64]), (28, [.int .i64, .int .i64, .int .i64]), (32, [.int .i64, .int .i64, .bool, .imm 1, .imm 1, .int .i64]), (38, [.int .i64, .int .i64, .bool, .imm 1, .imm 1, .int .i64])] [] true [] 0 2097152 F34b0 (s34v1_0 v)).bind (stpT true 0 [2, 5, 6, 16, 17, 18])) = some ((N34v1_0 v).map (Option.map s34v1_0)) := by kernel_rfl
theorem hu34v1_0 (σ : St) (v : V34v1_0) (h : u34v1_0 σ = some (v, true)) : σ = s34v1_0 v := by
  unfold u34v1_0 at h
  split at h
  · obtain ⟨hr, hk⟩ := Prod.mk.inj (Option.some.inj h)
    obtain ⟨d0, hk0⟩ := and_t hk
    obtain ⟨d1, hk1⟩ := and_t hk0
    obtain ⟨d2, hk2⟩ := and_t hk1
    obtain ⟨d3, hk3⟩ := and_t hk2
    obtain ⟨d4, hk4⟩ := and_t hk3
    obtain rfl := of_decide_eq_true d0
    obtain rfl := of_decide_eq_true d1
    obtain rfl := of_decide_eq_true d2
    obtain rfl := of_decide_eq_true d3
    obtain rfl := of_decide_eq_true d4
    rw [← hr]
    rfl
  · simp at h
theorem lt34v1_0 : TellsP (lqP true 0 [2, 5, 6, 16, 17, 18] (evp Q36 [(20, [.int .i64, .int .i64, .int .i64]), (21, [.int .i64, .int .i64, .int .i64]), (22, [.int .i64, .int .i64, .int .i64]), (27, [.int .i64, .int .i64, .bool, .imm 1, .imm 1, .int .i64]), (28, [.int .i64, .int .i64, .int .i64]), (32, [.int .i64, .int .i64, .bool, .imm 1, .imm 1, .int .i64]), (38, [.int .i64, .int .i64, .bool, .imm 1, .imm 1, .int .i64])] [] true [] 0 2097152 F34b0) u34v1_0 s34v1_0 N34v1_0 2097152) (evc R 0 2097152 (.loop [2, 5, 6, 16, 17, 18] F34b0)) := lqP_tells (evp_tells Q36_ok (loops_of (l := []) (by kernel_rfl) trivial)) hu34v1_0 hN34v1_0
noncomputable def lq34v1_0 : Lp := (19, lqP true 0 [2, 5, 6, 16, 17, 18] (evp Q36 [(20, [.int .i64, .int .i64, .int .i64]), (21, [.int .i64, .int .i64, .int .i64]), (22, [.int .i64, .int .i64, .int .i64]), (27, [.int .i64, .int .i64, .bool, .imm 1, .imm 1, .int .i64]), (28, [.int .i64, .int .i64, .int .i64]), (32, [.int .i64, .int .i64, .bool, .imm 1, .imm 1, .int .i64]), (38, [.int .i64, .int .i64, .bool, .imm 1, .imm 1, .int .i64])] [] true [] 0 2097152 F34b0) u34v1_0 s34v1_0 N34v1_0 2097152) :: []
noncomputable def w34v1_0 (v : V34v1_0) : V34v1_0 := (hid (loopV N34v1_0 2097152 v)).getD v
noncomputable def i34v1_0 (v : V34v1_0) : Bool := (hid (loopV N34v1_0 2097152 v)).isSome
noncomputable def y34v1_0 : Bool := ((eqN (List.length (g60).In) (List.length (g60).In)) && ((eqN (List.length (g60).Out) (List.length (g60).Out)) && true))
noncomputable def y34v1_1 (x0 : List Row) : V34v1_0 := (w34v1_0 (V34v1_0.mk (GDevice.mk 0 0 false [] [] 0) (g60) [] x0 (lenI x0) 0))
noncomputable def y34v1_2 (x0 : List Row) : Bool := (eqN (List.length (g116 (y34v1_1 x0).b1).In) (List.length (g116 (y34v1_1 x0).b1).In))
noncomputable def y34v1_3 (x0 : List Row) : Bool := (eqN (List.length (g116 (y34v1_1 x0).b1).Out) (List.length (g116 (y34v1_1 x0).b1).Out))
noncomputable def y34v1_4 (x0 : List Row) : Bool := ((eqN (List.length (y34v1_1 x0).s6) (List.length (y34v1_1 x0).s6)) && true)
noncomputable def T34v1 (x0 : List Row) : Pt (GDevice × List Row × Bool) := (.ok true (.ok true (.br (gtI (lenI x0) 80) (.ok true (.ok true (.leaf ((GDevice.mk 0 0 false [] [] 0), [], false)))) (.ok ((k60) && true) (.ok true (.ok true (.ok ((y34v1_0 && y34v1_0) && true) (.ok y34v1_0 (.ok (i34v1_0 (V34v1_0.mk (GDevice.mk 0 0 false [] [] 0) (g60) [] x0 (lenI x0) 0)) (.br (ltI (y34v1_1 x0).s18 (y34v1_1 x0).s17) (.ok true (.leaf ((GDevice.mk 0 0 false [] [] 0), [], false))) (.ok (((((eqN (List.length (y34v1_1 x0).b1.In) (List.length (y34v1_1 x0).b1.In)) && ((eqN (List.length (y34v1_1 x0).b1.Out) (List.length (y34v1_1 x0).b1.Out)) && true)) && true) && (k116 (y34v1_1 x0).b1)) && true) (.ok (((y34v1_2 x0) && ((y34v1_3 x0) && (y34v1_4 x0))) && (((y34v1_2 x0) && ((y34v1_3 x0) && true)) && (y34v1_4 x0))) (.leaf ((g116 (y34v1_1 x0).b1), (y34v1_1 x0).s6, true))))))))))))))
noncomputable def g34v1 (x0 : List Row) : GDevice × List Row × Bool := hid (T34v1 x0).val
noncomputable def k34v1 (x0 : List Row) : Bool := hid (T34v1 x0).okv
noncomputable def n34v1 (x0 : List Row) (r : GDevice × List Row × Bool) : SV × List Blk := ((.tup [(.agg [.lit (.int .i64 r.1.Every), .lit (.int .i64 r.1.Left), .lit (.bool r.1.Rung), .sl 0 0 (List.length r.1.In), .sl 1 0 (List.length r.1.Out), .lit (.int .i64 r.1.Lost)]), (.one (.sl 2 0 (List.length r.2.1))), (.one (.lit (.bool r.2.2)))]), [.lst 1 r.1.In, .lst 1 r.1.Out, .lst 1 r.2.1])
theorem e34v1 (x0 : List Row) : fnP Q36 [(20, [.int .i64, .int .i64, .int .i64]), (21, [.int .i64, .int .i64, .int .i64]), (22, [.int .i64, .int .i64, .int .i64]), (27, [.int .i64, .int .i64, .bool, .imm 1, .imm 1, .int .i64]), (28, [.int .i64, .int .i64, .int .i64]), (32, [.int .i64, .int .i64, .bool, .imm 1, .imm 1, .int .i64]), (38, [.int .i64, .int .i64, .bool, .imm 1, .imm 1, .int .i64])] [] true lq34v1_0 2097152 F34 [(.one (.imm false 3 x0))] [] = some ((T34v1 x0).map (n34v1 x0)) := by kernel_rfl
noncomputable def q34v1 : List SV → List Blk → Option ((SV × List Blk) × Bool)
  | [(.one (.imm false 3 c0))], [] => some (n34v1 c0 (g34v1 c0), k34v1 c0)
  | _, _ => none
theorem hL34v1 : Loops (fun live x => TellsP (lpAt lq34v1_0 (tagC x)) (evc R 0 2097152 (.loop live x))) F34.body := (loops_of (l := [([2, 5, 6, 16, 17, 18], F34b0)]) (by kernel_rfl) ⟨fun σ σr t h ho hl => lt34v1_0 σ σr t h ho hl, trivial⟩)
theorem t34v1 (args : List SV) (hp : List Blk) (r : SV × List Blk) (h : q34v1 args hp = some (r, true)) : frzR R 34 args hp = some r := by
  unfold q34v1 at h
  split at h
  · rename_i c0
    obtain ⟨hr, hk⟩ := Prod.mk.inj (Option.some.inj h)
    exact (frz_lo (by decide)).trans (R_fn at34 2097152 (fnP_c Q36_ok hL34v1 (e34v1 c0) hr hk))
  · simp at h
noncomputable def Q34v1 : Qt := qcons 34 q34v1 Q36
theorem Q34v1_ok : QOk (frzR R) Q34v1 := qcons_ok t34v1 Q36_ok
/-! (*spec.l1Cur).device -/
noncomputable def y117_0 (x0 : Gl1Cur) : Bool := ((k91 [(rowI (-1)), (rowI 255), (rowI 256)] (g73 30 (g108 x0).1).1) && true)
noncomputable def y117_1 : Bool := ((eqN (List.length (g60).Out) (List.length (g60).Out)) && true)
noncomputable def y117_2 : Bool := ((eqN (List.length (g60).In) (List.length (g60).In)) && y117_1)
noncomputable def y117_3 (x0 : Gl1Cur) : Gl1Cur × Int := (g91 [(rowI (-1)), (rowI 255), (rowI 256)] (g73 30 (g108 x0).1).1)
noncomputable def y117_4 (x0 : Gl1Cur) : Bool := ((eqN (List.length (g34v1 (g108 x0).2).1.Out) (List.length (g34v1 (g108 x0).2).1.Out)) && true)
noncomputable def y117_5 (x0 : Gl1Cur) : Bool := ((eqN (List.length (g34v1 (g108 x0).2).1.In) (List.length (g34v1 (g108 x0).2).1.In)) && (y117_4 x0))
noncomputable def T117 (x0 : Gl1Cur) : Pt (Gl1Cur × GDevice) := (.ok true (.ok ((k108 x0) && ((((eqN (List.length (g108 x0).2) (List.length (g108 x0).2)) && true) && (k34v1 (g108 x0).2)) && true)) (.ok true (.br (!(g34v1 (g108 x0).2).2.2) (.ok ((k60) && true) (.ok ((k73 30 (g108 x0).1) && true) (.ok true (.br (eqI (g73 30 (g108 x0).1).2 0) (.ok (y117_0 x0) (.ok true (.ok (y117_2 && (y117_2 && true)) (.leaf ((y117_3 x0).1, { (g60) with Left := (y117_3 x0).2 }))))) (.ok true (.br (eqI (g73 30 (g108 x0).1).2 1) (.ok true (.ok true (.ok (y117_1 && (y117_1 && true)) (.leaf ((g73 30 (g108 x0).1).1, { (g60) with In := [(rowI 1), (rowI 2), (rowI 3), (rowI 4), (rowI 5)] }))))) (.ok true (.ok (y117_2 && (y117_2 && true)) (.leaf ((g73 30 (g108 x0).1).1, (g60))))))))))) (.ok ((k73 30 (g108 x0).1) && true) (.ok true (.br (eqI (g73 30 (g108 x0).1).2 0) (.ok (y117_0 x0) (.ok true (.ok ((y117_5 x0) && ((y117_5 x0) && true)) (.leaf ((y117_3 x0).1, { (g34v1 (g108 x0).2).1 with Left := (y117_3 x0).2 }))))) (.ok true (.br (eqI (g73 30 (g108 x0).1).2 1) (.ok true (.ok true (.ok ((y117_4 x0) && ((y117_4 x0) && true)) (.leaf ((g73 30 (g108 x0).1).1, { (g34v1 (g108 x0).2).1 with In := [(rowI 1), (rowI 2), (rowI 3), (rowI 4), (rowI 5)] }))))) (.ok true (.ok ((y117_5 x0) && ((y117_5 x0) && true)) (.leaf ((g73 30 (g108 x0).1).1, (g34v1 (g108 x0).2).1)))))))))))))
noncomputable def g117 (x0 : Gl1Cur) : Gl1Cur × GDevice := hid (T117 x0).val
noncomputable def k117 (x0 : Gl1Cur) : Bool := hid (T117 x0).okv
noncomputable def n117 (x0 : Gl1Cur) (r : Gl1Cur × GDevice) : SV × List Blk := ((.agg [.lit (.int .i64 r.2.Every), .lit (.int .i64 r.2.Left), .lit (.bool r.2.Rung), .sl 1 0 (List.length r.2.In), .sl 2 0 (List.length r.2.Out), .lit (.int .i64 r.2.Lost)]), [.box [.imm true 1 r.1.fcode, .lit (.int .i64 r.1.fat), .lit (.int .u64 r.1.fseed)], .lst 1 r.2.In, .lst 1 r.2.Out])
theorem e117 (x0 : Gl1Cur) : fnP Q34v1 [(28, [.int .i64, .int .i64, .bool, .imm 1, .imm 1, .int .i64])] [] true [] 2097152 F117 [(.one (.ptr 0 0 0))] [.box [.imm true 1 x0.fcode, .lit (.int .i64 x0.fat), .lit (.int .u64 x0.fseed)]] = some ((T117 x0).map (n117 x0)) := by kernel_rfl
noncomputable def q117 : List SV → List Blk → Option ((SV × List Blk) × Bool)
  | [(.one (.ptr 0 0 0))], [.box [.imm true 1 c0, .lit (.int .i64 c1), .lit (.int .u64 c2)]] => some (n117 (Gl1Cur.mk c0 c1 c2) (g117 (Gl1Cur.mk c0 c1 c2)), k117 (Gl1Cur.mk c0 c1 c2))
  | _, _ => none
theorem t117 (args : List SV) (hp : List Blk) (r : SV × List Blk) (h : q117 args hp = some (r, true)) : frzR R 117 args hp = some r := by
  unfold q117 at h
  split at h
  · rename_i c0 c1 c2
    obtain ⟨hr, hk⟩ := Prod.mk.inj (Option.some.inj h)
    exact (frz_lo (by decide)).trans (R_fn at117 2097152 (fnP_c Q34v1_ok (loops_of (l := []) rfl trivial) (e117 (Gl1Cur.mk c0 c1 c2)) hr hk))
  · simp at h
noncomputable def Q117 : Qt := qcons 117 q117 Q34v1
theorem Q117_ok : QOk (frzR R) Q117 := qcons_ok t117 Q34v1_ok
/-! spec.DrawStepDevice -/
noncomputable def y37_0 (x0 : List Row) : Gl1Cur × GDevice := (g117 (Gl1Cur.mk x0 0 0))
noncomputable def y37_1 (x0 : List Row) : Bool := ((eqN (List.length (y37_0 x0).2.In) (List.length (y37_0 x0).2.In)) && ((eqN (List.length (y37_0 x0).2.Out) (List.length (y37_0 x0).2.Out)) && true))
noncomputable def T37 (x0 : List Row) : Pt (GDevice × GDevStep) := (.ok true (.ok true (.ok ((k117 (Gl1Cur.mk x0 0 0)) && ((k118 (y37_0 x0).1) && true)) (.ok ((y37_1 x0) && ((y37_1 x0) && true)) (.ok ((y37_1 x0) && true) (.leaf ((y37_0 x0).2, (g118 (y37_0 x0).1).2)))))))
noncomputable def g37 (x0 : List Row) : GDevice × GDevStep := hid (T37 x0).val
noncomputable def k37 (x0 : List Row) : Bool := hid (T37 x0).okv
noncomputable def n37 (x0 : List Row) (r : GDevice × GDevStep) : SV × List Blk := ((.tup [(.agg [.lit (.int .i64 r.1.Every), .lit (.int .i64 r.1.Left), .lit (.bool r.1.Rung), .imm true 1 r.1.In, .imm true 1 r.1.Out, .lit (.int .i64 r.1.Lost)]), (.agg [.lit (.int .i64 r.2.Kind), .lit (.int .i64 r.2.K), .lit (.int .i64 r.2.V)])]), [])
theorem e37 (x0 : List Row) : fnZ Q117 [] [] true [] 2097152 F37 [(.one (.imm true 1 x0))] = some ((T37 x0).map (n37 x0)) := by kernel_rfl
noncomputable def q37 : List SV → List Blk → Option ((SV × List Blk) × Bool)
  | [(.one (.imm true 1 c0))], [] => some (n37 c0 (g37 c0), k37 c0)
  | _, _ => none
theorem t37 (args : List SV) (hp : List Blk) (r : SV × List Blk) (h : q37 args hp = some (r, true)) : frzR R 100037 args hp = some r := by
  unfold q37 at h
  split at h
  · rename_i c0
    obtain ⟨hr, hk⟩ := Prod.mk.inj (Option.some.inj h)
    exact fnZ_c (f := 37) Q117_ok (loops_of (l := []) rfl trivial) (e37 c0) hr hk (fun r h => R_fn at37 2097152 h)
  · simp at h
noncomputable def Q37 : Qt := qcons 100037 q37 Q117
theorem Q37_ok : QOk (frzR R) Q37 := qcons_ok t37 Q117_ok
/-! impl.StepDevice -/
noncomputable def y38_0 (x0 : GDevice) : Bool := (eqN (List.length (g113 x0).In) (List.length (g113 x0).In))
noncomputable def y38_1 (x0 : GDevice) : Bool := (eqN (List.length (g113 x0).Out) (List.length (g113 x0).Out))
noncomputable def y38_2 (x0 : GDevice) (x1 : GDevStep) : GDevice := (g113 (g112 x1 (g113 x0)).1)
noncomputable def y38_3 (x0 : GDevice) (x1 : GDevStep) : Bool := ((eqN (List.length (y38_2 x0 x1).In) (List.length (y38_2 x0 x1).In)) && ((eqN (List.length (y38_2 x0 x1).Out) (List.length (y38_2 x0 x1).Out)) && true))
noncomputable def T38 (x0 : GDevice) (x1 : GDevStep) : Pt (GDevice × Int × Bool) := (.ok true (.ok ((k36 x0) && ((((k111 x1) && true) || (!(g36 x0))) && true)) (.br (bif (!(g36 x0)) then true else (!(g111 x1))) (.ok true (.ok true (.ok true (.leaf ((GDevice.mk 0 0 false [] [] 0), 0, false))))) (.ok ((k113 x0) && true) (.ok ((((((y38_0 x0) && ((y38_1 x0) && true)) && ((y38_0 x0) && ((y38_1 x0) && true))) && true) && ((y38_0 x0) && ((y38_1 x0) && (k112 x1 (g113 x0))))) && true) (.ok (((((eqN (List.length (g112 x1 (g113 x0)).1.In) (List.length (g112 x1 (g113 x0)).1.In)) && ((eqN (List.length (g112 x1 (g113 x0)).1.Out) (List.length (g112 x1 (g113 x0)).1.Out)) && true)) && true) && (k113 (g112 x1 (g113 x0)).1)) && true) (.ok ((y38_3 x0 x1) && ((y38_3 x0 x1) && true)) (.ok ((y38_3 x0 x1) && true) (.leaf ((y38_2 x0 x1), (g112 x1 (g113 x0)).2, true))))))))))
noncomputable def g38 (x0 : GDevice) (x1 : GDevStep) : GDevice × Int × Bool := hid (T38 x0 x1).val
noncomputable def k38 (x0 : GDevice) (x1 : GDevStep) : Bool := hid (T38 x0 x1).okv
noncomputable def n38 (x0 : GDevice) (x1 : GDevStep) (r : GDevice × Int × Bool) : SV × List Blk := ((.tup [(.agg [.lit (.int .i64 r.1.Every), .lit (.int .i64 r.1.Left), .lit (.bool r.1.Rung), .imm true 1 r.1.In, .imm true 1 r.1.Out, .lit (.int .i64 r.1.Lost)]), (.one (.lit (.int .i64 r.2.1))), (.one (.lit (.bool r.2.2)))]), [])
theorem e38 (x0 : GDevice) (x1 : GDevStep) : fnZ Q37 [(9, [.int .i64, .int .i64, .bool, .imm 1, .imm 1, .int .i64]), (13, [.int .i64, .int .i64, .int .i64]), (18, [.int .i64, .int .i64, .bool, .imm 1, .imm 1, .int .i64]), (20, [.int .i64, .int .i64, .int .i64]), (22, [.int .i64, .int .i64, .bool, .imm 1, .imm 1, .int .i64])] [] true [] 2097152 F38 [(.agg [.lit (.int .i64 x0.Every), .lit (.int .i64 x0.Left), .lit (.bool x0.Rung), .imm true 1 x0.In, .imm true 1 x0.Out, .lit (.int .i64 x0.Lost)]), (.agg [.lit (.int .i64 x1.Kind), .lit (.int .i64 x1.K), .lit (.int .i64 x1.V)])] = some ((T38 x0 x1).map (n38 x0 x1)) := by kernel_rfl
noncomputable def q38 : List SV → List Blk → Option ((SV × List Blk) × Bool)
  | [(.agg [.lit (.int .i64 c0), .lit (.int .i64 c1), .lit (.bool c2), .imm true 1 c3, .imm true 1 c4, .lit (.int .i64 c5)]), (.agg [.lit (.int .i64 c6), .lit (.int .i64 c7), .lit (.int .i64 c8)])], [] => some (n38 (GDevice.mk c0 c1 c2 c3 c4 c5) (GDevStep.mk c6 c7 c8) (g38 (GDevice.mk c0 c1 c2 c3 c4 c5) (GDevStep.mk c6 c7 c8)), k38 (GDevice.mk c0 c1 c2 c3 c4 c5) (GDevStep.mk c6 c7 c8))
  | _, _ => none
theorem t38 (args : List SV) (hp : List Blk) (r : SV × List Blk) (h : q38 args hp = some (r, true)) : frzR R 100038 args hp = some r := by
  unfold q38 at h
  split at h
  · rename_i c0 c1 c2 c3 c4 c5 c6 c7 c8
    obtain ⟨hr, hk⟩ := Prod.mk.inj (Option.some.inj h)
    exact fnZ_c (f := 38) Q37_ok (loops_of (l := []) rfl trivial) (e38 (GDevice.mk c0 c1 c2 c3 c4 c5) (GDevStep.mk c6 c7 c8)) hr hk (fun r h => R_fn at38 2097152 h)
  · simp at h
noncomputable def Q38 : Qt := qcons 100038 q38 Q37
theorem Q38_ok : QOk (frzR R) Q38 := qcons_ok t38 Q37_ok
/-! spec.l4Bytes -/
structure V85_0 where
  mk ::
  (s5 : List Row)
  (s6 : Int)
  (s7 : Int)
noncomputable def N85_0 (v : V85_0) : Pt (Option V85_0) := (.ok true (.br (ltI v.s7 v.s6) (.ok ((inRow [.int .i64] v.s5 v.s7) && true) (.ok ((k78 (intAt v.s5 (Int.toNat v.s7) 0) 0 255) && true) (.br (!(g78 (intAt v.s5 (Int.toNat v.s7) 0) 0 255)) (.ok true (.leaf none)) (.ok true (.ok true (.leaf (some { v with s7 := (addI v.s7 1) }))))))) (.leaf none)))
noncomputable def s85_0 (v : V85_0) : St := ⟨[(5, (.one (.imm true 1 v.s5))), (6, (.one (.lit (.int .i64 v.s6)))), (7, (.one (.lit (.int .i64 v.s7))))], []⟩
def u85_0 : St → Option (V85_0 × Bool)
  | ⟨[(5, (.one (.imm true 1 c0))), (6, (.one (.lit (.int .i64 c1)))), (7, (.one (.lit (.int .i64 c2))))], []⟩ => some ((V85_0.mk c0 c1 c2), true)
  | _ => none
theorem hN85_0 (v : V85_0) : ((evp Q38 [(9, [.int .i64]), (10, [.int .i64])] [] true [] 0 2097152 F85b0 (s85_0 v)).bind (stpT true 0 [5, 6, 7])) = some ((N85_0 v).map (Option.map s85_0)) := by kernel_rfl
theorem hu85_0 (σ : St) (v : V85_0) (h : u85_0 σ = some (v, true)) : σ = s85_0 v := by
  unfold u85_0 at h
  split at h
  · obtain ⟨hr, hk⟩ := Prod.mk.inj (Option.some.inj h)
    rw [← hr]
    rfl
  · simp at h
theorem lt85_0 : TellsP (lqP true 0 [5, 6, 7] (evp Q38 [(9, [.int .i64]), (10, [.int .i64])] [] true [] 0 2097152 F85b0) u85_0 s85_0 N85_0 2097152) (evc R 0 2097152 (.loop [5, 6, 7] F85b0)) := lqP_tells (evp_tells Q38_ok (loops_of (l := []) (by kernel_rfl) trivial)) hu85_0 hN85_0
noncomputable def lq85_0 : Lp := (8, lqP true 0 [5, 6, 7] (evp Q38 [(9, [.int .i64]), (10, [.int .i64])] [] true [] 0 2097152 F85b0) u85_0 s85_0 N85_0 2097152) :: []
noncomputable def w85_0 (v : V85_0) : V85_0 := (hid (loopV N85_0 2097152 v)).getD v
noncomputable def i85_0 (v : V85_0) : Bool := (hid (loopV N85_0 2097152 v)).isSome
noncomputable def y85_0 (x0 : List Row) : V85_0 := (w85_0 (V85_0.mk x0 (lenI x0) 0))
noncomputable def T85 (x0 : List Row) : Pt (Bool) := (.ok true (.ok true (.ok true (.ok true (.ok (i85_0 (V85_0.mk x0 (lenI x0) 0)) (.br (ltI (y85_0 x0).s7 (y85_0 x0).s6) (.ok true (.ok true (.leaf false))) (.ok true (.ok true (.ok true (.leaf true))))))))))
noncomputable def g85 (x0 : List Row) : Bool := hid (T85 x0).val
noncomputable def k85 (x0 : List Row) : Bool := hid (T85 x0).okv
noncomputable def n85 (x0 : List Row) (r : Bool) : SV × List Blk := ((.one (.lit (.bool r))), [])
theorem e85 (x0 : List Row) : fnZ Q38 [(9, [.int .i64]), (10, [.int .i64])] [] true lq85_0 2097152 F85 [(.one (.imm true 1 x0))] = some ((T85 x0).map (n85 x0)) := by kernel_rfl
noncomputable def q85 : List SV → List Blk → Option ((SV × List Blk) × Bool)
  | [(.one (.imm true 1 c0))], [] => some (n85 c0 (g85 c0), k85 c0)
  | _, _ => none
theorem hL85 : Loops (fun live x => TellsP (lpAt lq85_0 (tagC x)) (evc R 0 2097152 (.loop live x))) F85.body := (loops_of (l := [([5, 6, 7], F85b0)]) (by kernel_rfl) ⟨fun σ σr t h ho hl => lt85_0 σ σr t h ho hl, trivial⟩)
theorem t85 (args : List SV) (hp : List Blk) (r : SV × List Blk) (h : q85 args hp = some (r, true)) : frzR R 100085 args hp = some r := by
  unfold q85 at h
  split at h
  · rename_i c0
    obtain ⟨hr, hk⟩ := Prod.mk.inj (Option.some.inj h)
    exact fnZ_c (f := 85) Q38_ok hL85 (e85 c0) hr hk (fun r h => R_fn at85 2097152 h)
  · simp at h
noncomputable def Q85 : Qt := qcons 100085 q85 Q38
theorem Q85_ok : QOk (frzR R) Q85 := qcons_ok t85 Q38_ok
/-! spec.GoodDevice -/
noncomputable def y119_0 (x0 : GDevice) : Bool := (bif (g78 x0.Every 0 255) then (g78 x0.Left 0 x0.Every) else false)
noncomputable def y119_1 (x0 : GDevice) : Bool := (bif (y119_0 x0) then (g85 x0.In) else false)
noncomputable def y119_2 (x0 : GDevice) : Bool := (bif (bif (bif (y119_1 x0) then (g85 x0.Out) else false) then (leI (lenI x0.In) 4) else false) then (leI (lenI x0.Out) 200) else false)
noncomputable def T119 (x0 : GDevice) : Pt (Bool) := (.ok true (.ok ((k78 x0.Every 0 255) && ((((k78 x0.Left 0 x0.Every) && true) || (!(g78 x0.Every 0 255))) && ((((k85 x0.In) && true) || (!(y119_0 x0))) && ((((k85 x0.Out) && true) || (!(y119_1 x0))) && ((((k78 x0.Lost 0 1000) && true) || (!(y119_2 x0))) && true))))) (.ok true (.ok true (.leaf (bif (y119_2 x0) then (g78 x0.Lost 0 1000) else false))))))
noncomputable def g119 (x0 : GDevice) : Bool := hid (T119 x0).val
noncomputable def k119 (x0 : GDevice) : Bool := hid (T119 x0).okv
noncomputable def n119 (x0 : GDevice) (r : Bool) : SV × List Blk := ((.one (.lit (.bool r))), [])
theorem e119 (x0 : GDevice) : fnZ Q85 [(4, [.int .i64]), (8, [.int .i64]), (10, [.int .i64]), (15, [.imm 1]), (20, [.imm 1]), (25, [.imm 1]), (31, [.imm 1]), (37, [.int .i64])] [] true [] 2097152 F119 [(.agg [.lit (.int .i64 x0.Every), .lit (.int .i64 x0.Left), .lit (.bool x0.Rung), .imm true 1 x0.In, .imm true 1 x0.Out, .lit (.int .i64 x0.Lost)])] = some ((T119 x0).map (n119 x0)) := by kernel_rfl
noncomputable def q119 : List SV → List Blk → Option ((SV × List Blk) × Bool)
  | [(.agg [.lit (.int .i64 c0), .lit (.int .i64 c1), .lit (.bool c2), .imm true 1 c3, .imm true 1 c4, .lit (.int .i64 c5)])], [] => some (n119 (GDevice.mk c0 c1 c2 c3 c4 c5) (g119 (GDevice.mk c0 c1 c2 c3 c4 c5)), k119 (GDevice.mk c0 c1 c2 c3 c4 c5))
  | _, _ => none
theorem t119 (args : List SV) (hp : List Blk) (r : SV × List Blk) (h : q119 args hp = some (r, true)) : frzR R 100119 args hp = some r := by
  unfold q119 at h
  split at h
  · rename_i c0 c1 c2 c3 c4 c5
    obtain ⟨hr, hk⟩ := Prod.mk.inj (Option.some.inj h)
    exact fnZ_c (f := 119) Q85_ok (loops_of (l := []) rfl trivial) (e119 (GDevice.mk c0 c1 c2 c3 c4 c5)) hr hk (fun r h => R_fn at119 2097152 h)
  · simp at h
noncomputable def Q119 : Qt := qcons 100119 q119 Q85
theorem Q119_ok : QOk (frzR R) Q119 := qcons_ok t119 Q85_ok
/-! spec.StepDevice -/
noncomputable def y39_0 (x0 : GDevice) : Bool := (eqN (List.length (g116 x0).In) (List.length (g116 x0).In))
noncomputable def y39_1 (x0 : GDevice) : Bool := (eqN (List.length (g116 x0).Out) (List.length (g116 x0).Out))
noncomputable def y39_2 (x0 : GDevice) (x1 : GDevStep) : Bool := ((eqN (List.length (g115 (g116 x0) x1).1.In) (List.length (g115 (g116 x0) x1).1.In)) && ((eqN (List.length (g115 (g116 x0) x1).1.Out) (List.length (g115 (g116 x0) x1).1.Out)) && true))
noncomputable def y39_3 (x0 : GDevice) (x1 : GDevStep) : Bool := (((k116 x0) && (((((y39_0 x0) && ((y39_1 x0) && true)) && (((y39_0 x0) && ((y39_1 x0) && true)) && true)) && ((y39_0 x0) && ((y39_1 x0) && (k115 (g116 x0) x1)))) && true)) && (((y39_2 x0 x1) && (y39_2 x0 x1)) && true))
noncomputable def y39_4 (x0 : GDevice) (x1 : GDevStep) : Bool := ((same (α := Int) (g115 (g116 x0) x1).1.Left (g115 (g116 x0) x1).1.Left) && ((same (α := Bool) (g115 (g116 x0) x1).1.Rung (g115 (g116 x0) x1).1.Rung) && ((same (α := Nat) (List.length (g115 (g116 x0) x1).1.In) (List.length (g115 (g116 x0) x1).1.In)) && ((same (α := Nat) (List.length (g115 (g116 x0) x1).1.Out) (List.length (g115 (g116 x0) x1).1.Out)) && ((same (α := Int) (g115 (g116 x0) x1).1.Lost (g115 (g116 x0) x1).1.Lost) && true)))))
noncomputable def y39_5 (x0 : GDevice) (x1 : GDevStep) : Bool := (((same (α := Int) 0 0) && ((same (α := Int) 0 0) && ((same (α := Bool) false false) && ((same (α := Nat) 0 0) && ((same (α := Nat) 0 0) && ((same (α := Int) 0 0) && true)))))) && (((same (α := Int) (g115 (g116 x0) x1).1.Every (g115 (g116 x0) x1).1.Every) && (y39_4 x0 x1)) && ((sameR [] []) && ((sameR [] []) && ((sameR (g115 (g116 x0) x1).1.In (g115 (g116 x0) x1).1.In) && ((sameR (g115 (g116 x0) x1).1.Out (g115 (g116 x0) x1).1.Out) && true))))))
noncomputable def y39_6 (x0 : GDevice) (x1 : GDevStep) : Bool := (((same (α := Int) (g115 (g116 x0) x1).2 (g115 (g116 x0) x1).2) && true) && (y39_5 x0 x1))
noncomputable def y39_7 (x0 : GDevice) (x1 : GDevStep) : Bool := (((y39_3 x0 x1) && (((y39_3 x0 x1) && (((y39_3 x0 x1) && (((y39_3 x0 x1) && (((y39_3 x0 x1) && (((y39_3 x0 x1) && (((y39_3 x0 x1) && (((y39_3 x0 x1) && (((y39_3 x0 x1) && (((y39_3 x0 x1) && ((y39_3 x0 x1) && (y39_6 x0 x1))) && (y39_6 x0 x1))) && (y39_6 x0 x1))) && (y39_6 x0 x1))) && (y39_6 x0 x1))) && (y39_6 x0 x1))) && (y39_6 x0 x1))) && (y39_6 x0 x1))) && (y39_6 x0 x1))) && (y39_6 x0 x1))) && (y39_6 x0 x1))
noncomputable def T39 (x0 : GDevice) (x1 : GDevStep) : Pt (GDevice × Int × Bool) := (.ok true (.ok ((k119 x0) && ((((k114 x1) && true) || (!(g119 x0))) && true)) (.br (bif (!(g119 x0)) then true else (!(g114 x1))) (.ok true (.ok true (.ok true (.leaf ((GDevice.mk 0 0 false [] [] 0), 0, false))))) (.ok ((y39_3 x0 x1) && (((y39_3 x0 x1) && (((y39_3 x0 x1) && (y39_7 x0 x1)) && (y39_6 x0 x1))) && (y39_6 x0 x1))) (.ok true (.ok ((y39_2 x0 x1) && ((y39_2 x0 x1) && true)) (.ok ((y39_2 x0 x1) && true) (.leaf ((g115 (g116 x0) x1).1, (g115 (g116 x0) x1).2, true)))))))))
noncomputable def g39 (x0 : GDevice) (x1 : GDevStep) : GDevice × Int × Bool := hid (T39 x0 x1).val
noncomputable def k39 (x0 : GDevice) (x1 : GDevStep) : Bool := hid (T39 x0 x1).okv
noncomputable def n39 (x0 : GDevice) (x1 : GDevStep) (r : GDevice × Int × Bool) : SV × List Blk := ((.tup [(.agg [.lit (.int .i64 r.1.Every), .lit (.int .i64 r.1.Left), .lit (.bool r.1.Rung), .imm true 1 r.1.In, .imm true 1 r.1.Out, .lit (.int .i64 r.1.Lost)]), (.one (.lit (.int .i64 r.2.1))), (.one (.lit (.bool r.2.2)))]), [])
theorem e39 (x0 : GDevice) (x1 : GDevStep) : fnZ Q119 [(9, [.int .i64, .int .i64, .bool, .imm 1, .imm 1, .int .i64]), (13, [.int .i64, .int .i64, .int .i64]), (19, [.int .i64, .int .i64, .bool, .imm 1, .imm 1, .int .i64]), (21, [.int .i64, .int .i64, .int .i64]), (25, [.int .i64, .int .i64, .bool, .imm 1, .imm 1, .int .i64])] [] true [] 2097152 F39 [(.agg [.lit (.int .i64 x0.Every), .lit (.int .i64 x0.Left), .lit (.bool x0.Rung), .imm true 1 x0.In, .imm true 1 x0.Out, .lit (.int .i64 x0.Lost)]), (.agg [.lit (.int .i64 x1.Kind), .lit (.int .i64 x1.K), .lit (.int .i64 x1.V)])] = some ((T39 x0 x1).map (n39 x0 x1)) := by kernel_rfl
noncomputable def q39 : List SV → List Blk → Option ((SV × List Blk) × Bool)
  | [(.agg [.lit (.int .i64 c0), .lit (.int .i64 c1), .lit (.bool c2), .imm true 1 c3, .imm true 1 c4, .lit (.int .i64 c5)]), (.agg [.lit (.int .i64 c6), .lit (.int .i64 c7), .lit (.int .i64 c8)])], [] => some (n39 (GDevice.mk c0 c1 c2 c3 c4 c5) (GDevStep.mk c6 c7 c8) (g39 (GDevice.mk c0 c1 c2 c3 c4 c5) (GDevStep.mk c6 c7 c8)), k39 (GDevice.mk c0 c1 c2 c3 c4 c5) (GDevStep.mk c6 c7 c8))
  | _, _ => none
theorem t39 (args : List SV) (hp : List Blk) (r : SV × List Blk) (h : q39 args hp = some (r, true)) : frzR R 100039 args hp = some r := by
  unfold q39 at h
  split at h
  · rename_i c0 c1 c2 c3 c4 c5 c6 c7 c8
    obtain ⟨hr, hk⟩ := Prod.mk.inj (Option.some.inj h)
    exact fnZ_c (f := 39) Q119_ok (loops_of (l := []) rfl trivial) (e39 (GDevice.mk c0 c1 c2 c3 c4 c5) (GDevStep.mk c6 c7 c8)) hr hk (fun r h => R_fn at39 2097152 h)
  · simp at h
noncomputable def Q39 : Qt := qcons 100039 q39 Q119
theorem Q39_ok : QOk (frzR R) Q39 := qcons_ok t39 Q119_ok
/-! laws.FnDevices -/
structure V5_0 where
  mk ::
  (b0 : GDevice)
  (s1 : List Row)
  (s7 : List Row)
  (s12 : Int)
  (s13 : Int)
  (s70 : List Row)
  (s71 : Int)
  (s72 : Int)
noncomputable def y5_0_l_0 (v : V5_0) : Bool := (neI (intAt v.s70 (Int.toNat v.s72) 0) 3)
noncomputable def y5_0_l_1 (v : V5_0) : Bool := (eqI (intAt v.s70 (Int.toNat v.s72) 0) 2)
noncomputable def N5_0 (v : V5_0) : Pt (Option V5_0) := (.ok true (.br (ltI v.s72 v.s71) (.ok ((inRow [.int .i64, .int .i64, .int .i64] v.s70 v.s72) && true) (.ok true (.ok true (.ok ((((inRow [.int .i64] v.s7 v.s72) && true) || (!(y5_0_l_0 v))) && true) (.br (bif (y5_0_l_0 v) then (neI (intAt v.s7 (Int.toNat v.s72) 0) 0) else false) (.ok true (.leaf none)) (.ok true (.ok true (.leaf (some { v with s12 := (bif (y5_0_l_1 v) then (addI v.s12 1) else v.s12), s13 := (bif (y5_0_l_1 v) then v.s13 else (bif (bif (bif (eqI (intAt v.s70 (Int.toNat v.s72) 0) 3) then (eqI (intAt v.s70 (Int.toNat v.s72) 1) 2) else false) then true else (bif (eqI (intAt v.s70 (Int.toNat v.s72) 0) 4) then (eqI (intAt v.s70 (Int.toNat v.s72) 1) 3) else false)) then (addI v.s13 1) else v.s13)), s72 := (addI v.s72 1) }))))))))) (.leaf none)))
noncomputable def s5_0 (v : V5_0) : St := ⟨[(1, (.one (.imm true 1 v.s1))), (6, (.one (.ptr 0 0 0))), (7, (.one (.imm true 1 v.s7))), (12, (.one (.lit (.int .i64 v.s12)))), (13, (.one (.lit (.int .i64 v.s13)))), (70, (.one (.imm true 3 v.s70))), (71, (.one (.lit (.int .i64 v.s71)))), (72, (.one (.lit (.int .i64 v.s72))))], [.box [.lit (.int .i64 v.b0.Every), .lit (.int .i64 v.b0.Left), .lit (.bool v.b0.Rung), .imm true 1 v.b0.In, .imm true 1 v.b0.Out, .lit (.int .i64 v.b0.Lost)]]⟩
def u5_0 : St → Option (V5_0 × Bool)
  | ⟨[(1, (.one (.imm true 1 c6))), (6, (.one (.ptr 0 0 0))), (7, (.one (.imm true 1 c7))), (12, (.one (.lit (.int .i64 c8)))), (13, (.one (.lit (.int .i64 c9)))), (70, (.one (.imm true 3 c10))), (71, (.one (.lit (.int .i64 c11)))), (72, (.one (.lit (.int .i64 c12))))], [.box [.lit (.int .i64 c0), .lit (.int .i64 c1), .lit (.bool c2), .imm true 1 c3, .imm true 1 c4, .lit (.int .i64 c5)]]⟩ => some ((V5_0.mk (GDevice.mk c0 c1 c2 c3 c4 c5) c6 c7 c8 c9 c10 c11 c12), true)
  | _ => none
theorem hN5_0 (v : V5_0) : ((evp Q36 [(54, [.int .i64, .int .i64, .bool, .imm 1, .imm 1, .int .i64]), (55, [.int .i64, .int .i64, .bool, .imm 1, .imm 1, .int .i64]), (60, [.int .i64, .int .i64, .bool, .imm 1, .imm 1, .int .i64]), (75, [.int .i64, .int .i64, .int .i64]), (76, [.int .i64, .int .i64, .int .i64]), (79, [.int .i64]), (85, [.int .i64]), (89, [.int .i64]), (94, [.int .i64]), (98, [.int .i64]), (105, [.int .i64]), (110, [.int .i64]), (111, [.int .i64]), (116, [.imm 1]), (119, [.int .i64]), (128, [.imm 1]), (131, [.int .i64]), (143, [.int .i64, .int .i64, .bool, .imm 1, .imm 1, .int .i64]), (144, [.int .i64, .int .i64, .int .i64]), (150, [.int .i64, .int .i64, .bool, .imm 1, .imm 1, .int .i64]), (151, [.int .i64, .int .i64, .int .i64]), (165, [.int .i64, .int .i64, .bool, .imm 1, .imm 1, .int .i64]), (166, [.int .i64, .int .i64, .bool, .imm 1, .imm 1, .int .i64]), (173, [.int .i64, .int .i64, .bool, .imm 1, .imm 1, .int .i64]), (181, [.int .i64]), (186, [.int .i64]), (191, [.bool]), (195, [.bool]), (197, [.int .i64])] [] true [] 0 2097152 F5b0 (s5_0 v)).bind (stpT true 0 [1, 6, 7, 12, 13, 70, 71, 72])) = some ((N5_0 v).map (Option.map s5_0)) := by kernel_rfl
theorem hu5_0 (σ : St) (v : V5_0) (h : u5_0 σ = some (v, true)) : σ = s5_0 v := by
  unfold u5_0 at h
  split at h
  · obtain ⟨hr, hk⟩ := Prod.mk.inj (Option.some.inj h)
    rw [← hr]
    rfl
  · simp at h
theorem lt5_0 : TellsP (lqP true 0 [1, 6, 7, 12, 13, 70, 71, 72] (evp Q36 [(54, [.int .i64, .int .i64, .bool, .imm 1, .imm 1, .int .i64]), (55, [.int .i64, .int .i64, .bool, .imm 1, .imm 1, .int .i64]), (60, [.int .i64, .int .i64, .bool, .imm 1, .imm 1, .int .i64]), (75, [.int .i64, .int .i64, .int .i64]), (76, [.int .i64, .int .i64, .int .i64]), (79, [.int .i64]), (85, [.int .i64]), (89, [.int .i64]), (94, [.int .i64]), (98, [.int .i64]), (105, [.int .i64]), (110, [.int .i64]), (111, [.int .i64]), (116, [.imm 1]), (119, [.int .i64]), (128, [.imm 1]), (131, [.int .i64]), (143, [.int .i64, .int .i64, .bool, .imm 1, .imm 1, .int .i64]), (144, [.int .i64, .int .i64, .int .i64]), (150, [.int .i64, .int .i64, .bool, .imm 1, .imm 1, .int .i64]), (151, [.int .i64, .int .i64, .int .i64]), (165, [.int .i64, .int .i64, .bool, .imm 1, .imm 1, .int .i64]), (166, [.int .i64, .int .i64, .bool, .imm 1, .imm 1, .int .i64]), (173, [.int .i64, .int .i64, .bool, .imm 1, .imm 1, .int .i64]), (181, [.int .i64]), (186, [.int .i64]), (191, [.bool]), (195, [.bool]), (197, [.int .i64])] [] true [] 0 2097152 F5b0) u5_0 s5_0 N5_0 2097152) (evc R 0 2097152 (.loop [1, 6, 7, 12, 13, 70, 71, 72] F5b0)) := lqP_tells (evp_tells Q36_ok (loops_of (l := []) (by kernel_rfl) trivial)) hu5_0 hN5_0
noncomputable def lq5_0 : Lp := (73, lqP true 0 [1, 6, 7, 12, 13, 70, 71, 72] (evp Q36 [(54, [.int .i64, .int .i64, .bool, .imm 1, .imm 1, .int .i64]), (55, [.int .i64, .int .i64, .bool, .imm 1, .imm 1, .int .i64]), (60, [.int .i64, .int .i64, .bool, .imm 1, .imm 1, .int .i64]), (75, [.int .i64, .int .i64, .int .i64]), (76, [.int .i64, .int .i64, .int .i64]), (79, [.int .i64]), (85, [.int .i64]), (89, [.int .i64]), (94, [.int .i64]), (98, [.int .i64]), (105, [.int .i64]), (110, [.int .i64]), (111, [.int .i64]), (116, [.imm 1]), (119, [.int .i64]), (128, [.imm 1]), (131, [.int .i64]), (143, [.int .i64, .int .i64, .bool, .imm 1, .imm 1, .int .i64]), (144, [.int .i64, .int .i64, .int .i64]), (150, [.int .i64, .int .i64, .bool, .imm 1, .imm 1, .int .i64]), (151, [.int .i64, .int .i64, .int .i64]), (165, [.int .i64, .int .i64, .bool, .imm 1, .imm 1, .int .i64]), (166, [.int .i64, .int .i64, .bool, .imm 1, .imm 1, .int .i64]), (173, [.int .i64, .int .i64, .bool, .imm 1, .imm 1, .int .i64]), (181, [.int .i64]), (186, [.int .i64]), (191, [.bool]), (195, [.bool]), (197, [.int .i64])] [] true [] 0 2097152 F5b0) u5_0 s5_0 N5_0 2097152) :: []
noncomputable def w5_0 (v : V5_0) : V5_0 := (hid (loopV N5_0 2097152 v)).getD v
noncomputable def i5_0 (v : V5_0) : Bool := (hid (loopV N5_0 2097152 v)).isSome
noncomputable def y5_0 (x0 : List Row) : Bool := (!(eqB (g33 (g32 x0)).2.2 (g34 (g32 x0)).2.2))
noncomputable def y5_1 (x0 : List Row) : Bool := (bif (y5_0 x0) then true else (!(g20 (g33 (g32 x0)).2.1 (g34 (g32 x0)).2.1)))
noncomputable def y5_2 (x0 : List Row) (x1 : List Row) : V5_0 := (w5_0 (V5_0.mk (g33 (g32 x0)).1 x1 (g33 (g32 x0)).2.1 0 0 (g32 x0) (lenI (g32 x0)) 0))
noncomputable def y5_3 (x0 : List Row) (x1 : List Row) : Int := (addI (lenI (y5_2 x0 x1).b0.In) (y5_2 x0 x1).b0.Lost)
noncomputable def y5_4 (x0 : List Row) (x1 : List Row) : GDevice × Int × Bool := (g38 (g37 (y5_2 x0 x1).s1).1 (g37 (y5_2 x0 x1).s1).2)
noncomputable def y5_5 (x0 : List Row) (x1 : List Row) : GDevice × Int × Bool := (g39 (g37 (y5_2 x0 x1).s1).1 (g37 (y5_2 x0 x1).s1).2)
noncomputable def y5_6 (x0 : List Row) (x1 : List Row) : Bool := (bif (!(eqB (y5_4 x0 x1).2.2 (y5_5 x0 x1).2.2)) then true else (neI (y5_4 x0 x1).2.1 (y5_5 x0 x1).2.1))
noncomputable def y5_7 (x0 : List Row) (x1 : List Row) : Bool := (bif (y5_6 x0 x1) then true else (!(g35 (y5_4 x0 x1).1 (y5_5 x0 x1).1)))
noncomputable def y5_8 (x1 : List Row) : GDevice × Int × Bool := (g38 (g37 x1).1 (g37 x1).2)
noncomputable def y5_9 (x1 : List Row) : GDevice × Int × Bool := (g39 (g37 x1).1 (g37 x1).2)
noncomputable def y5_10 (x1 : List Row) : Bool := (bif (!(eqB (y5_8 x1).2.2 (y5_9 x1).2.2)) then true else (neI (y5_8 x1).2.1 (y5_9 x1).2.1))
noncomputable def y5_11 (x1 : List Row) : Bool := (bif (y5_10 x1) then true else (!(g35 (y5_8 x1).1 (y5_9 x1).1)))
noncomputable def T5 (x0 : List Row) (x1 : List Row) : Pt (Bool) := (.ok true (.ok true (.br (gtI (addI (lenI x0) (lenI x1)) 1048576) (.ok true (.ok true (.leaf true))) (.ok ((k32 x0) && true) (.ok ((k33 (g32 x0)) && true) (.ok ((k34 (g32 x0)) && true) (.ok ((((k20 (g33 (g32 x0)).2.1 (g34 (g32 x0)).2.1) && true) || (y5_0 x0)) && ((((k35 (g33 (g32 x0)).1 (g34 (g32 x0)).1) && true) || (y5_1 x0)) && true)) (.br (bif (y5_1 x0) then true else (!(g35 (g33 (g32 x0)).1 (g34 (g32 x0)).1))) (.ok true (.ok true (.leaf false))) (.ok true (.br (g33 (g32 x0)).2.2 (.ok ((k36 (g33 (g32 x0)).1) && true) (.br (bif (!(g36 (g33 (g32 x0)).1)) then true else (neI (lenI (g33 (g32 x0)).2.1) (lenI (g32 x0)))) (.ok true (.ok true (.leaf false))) (.ok true (.ok true (.ok true (.ok true (.ok true (.ok (i5_0 (V5_0.mk (g33 (g32 x0)).1 x1 (g33 (g32 x0)).2.1 0 0 (g32 x0) (lenI (g32 x0)) 0)) (.br (ltI (y5_2 x0 x1).s72 (y5_2 x0 x1).s71) (.ok true (.leaf false)) (.ok true (.br (bif (gtI (y5_3 x0 x1) (y5_2 x0 x1).s12) then true else (bif (eqI (y5_2 x0 x1).s13 0) then (neI (y5_3 x0 x1) (y5_2 x0 x1).s12) else false)) (.ok true (.ok true (.leaf false))) (.ok ((k37 (y5_2 x0 x1).s1) && true) (.ok ((k38 (g37 (y5_2 x0 x1).s1).1 (g37 (y5_2 x0 x1).s1).2) && true) (.ok ((k39 (g37 (y5_2 x0 x1).s1).1 (g37 (y5_2 x0 x1).s1).2) && true) (.ok ((((k35 (y5_4 x0 x1).1 (y5_5 x0 x1).1) && true) || (y5_6 x0 x1)) && ((((((k36 (y5_4 x0 x1).1) && true) || (!(y5_4 x0 x1).2.2)) && true) || (y5_7 x0 x1)) && true)) (.br (bif (y5_7 x0 x1) then true else (bif (y5_4 x0 x1).2.2 then (!(g36 (y5_4 x0 x1).1)) else false)) (.ok true (.ok true (.leaf false))) (.ok true (.br (bif (bif (bif (y5_4 x0 x1).2.2 then (eqI (g37 (y5_2 x0 x1).s1).2.Kind 1) else false) then (gtI (g37 (y5_2 x0 x1).s1).1.Every 0) else false) then (!(g37 (y5_2 x0 x1).s1).1.Rung) else false) (.ok true (.ok true (.leaf (eqB (y5_4 x0 x1).1.Rung (leI (g37 (y5_2 x0 x1).s1).1.Left 1))))) (.ok true (.ok true (.leaf true))))))))))))))))))))) (.ok ((k37 x1) && true) (.ok ((k38 (g37 x1).1 (g37 x1).2) && true) (.ok ((k39 (g37 x1).1 (g37 x1).2) && true) (.ok ((((k35 (y5_8 x1).1 (y5_9 x1).1) && true) || (y5_10 x1)) && ((((((k36 (y5_8 x1).1) && true) || (!(y5_8 x1).2.2)) && true) || (y5_11 x1)) && true)) (.br (bif (y5_11 x1) then true else (bif (y5_8 x1).2.2 then (!(g36 (y5_8 x1).1)) else false)) (.ok true (.ok true (.leaf false))) (.ok true (.br (bif (bif (bif (y5_8 x1).2.2 then (eqI (g37 x1).2.Kind 1) else false) then (gtI (g37 x1).1.Every 0) else false) then (!(g37 x1).1.Rung) else false) (.ok true (.ok true (.leaf (eqB (y5_8 x1).1.Rung (leI (g37 x1).1.Left 1))))) (.ok true (.ok true (.leaf true))))))))))))))))))))
noncomputable def g5 (x0 : List Row) (x1 : List Row) : Bool := hid (T5 x0 x1).val
noncomputable def k5 (x0 : List Row) (x1 : List Row) : Bool := hid (T5 x0 x1).okv
noncomputable def n5 (x0 : List Row) (x1 : List Row) (r : Bool) : SV × List Blk := ((.one (.lit (.bool r))), [])
theorem e5 (x0 : List Row) (x1 : List Row) : fnP Q39 [(54, [.int .i64, .int .i64, .bool, .imm 1, .imm 1, .int .i64]), (55, [.int .i64, .int .i64, .bool, .imm 1, .imm 1, .int .i64]), (60, [.int .i64, .int .i64, .bool, .imm 1, .imm 1, .int .i64]), (75, [.int .i64, .int .i64, .int .i64]), (76, [.int .i64, .int .i64, .int .i64]), (79, [.int .i64]), (85, [.int .i64]), (89, [.int .i64]), (94, [.int .i64]), (98, [.int .i64]), (105, [.int .i64]), (110, [.int .i64]), (111, [.int .i64]), (116, [.imm 1]), (119, [.int .i64]), (128, [.imm 1]), (131, [.int .i64]), (143, [.int .i64, .int .i64, .bool, .imm 1, .imm 1, .int .i64]), (144, [.int .i64, .int .i64, .int .i64]), (150, [.int .i64, .int .i64, .bool, .imm 1, .imm 1, .int .i64]), (151, [.int .i64, .int .i64, .int .i64]), (165, [.int .i64, .int .i64, .bool, .imm 1, .imm 1, .int .i64]), (166, [.int .i64, .int .i64, .bool, .imm 1, .imm 1, .int .i64]), (173, [.int .i64, .int .i64, .bool, .imm 1, .imm 1, .int .i64]), (181, [.int .i64]), (186, [.int .i64]), (191, [.bool]), (195, [.bool]), (197, [.int .i64])] [] true lq5_0 2097152 F5 [(.one (.imm true 1 x0)), (.one (.imm true 1 x1))] [] = some ((T5 x0 x1).map (n5 x0 x1)) := by kernel_rfl
noncomputable def q5 : List SV → List Blk → Option ((SV × List Blk) × Bool)
  | [(.one (.imm true 1 c0)), (.one (.imm true 1 c1))], [] => some (n5 c0 c1 (g5 c0 c1), k5 c0 c1)
  | _, _ => none
theorem hL5 : Loops (fun live x => TellsP (lpAt lq5_0 (tagC x)) (evc R 0 2097152 (.loop live x))) F5.body := (loops_of (l := [([1, 6, 7, 12, 13, 70, 71, 72], F5b0)]) (by kernel_rfl) ⟨fun σ σr t h ho hl => lt5_0 σ σr t h ho hl, trivial⟩)
theorem t5 (args : List SV) (hp : List Blk) (r : SV × List Blk) (h : q5 args hp = some (r, true)) : frzR R 5 args hp = some r := by
  unfold q5 at h
  split at h
  · rename_i c0 c1
    obtain ⟨hr, hk⟩ := Prod.mk.inj (Option.some.inj h)
    exact (frz_lo (by decide)).trans (R_fn at5 2097152 (fnP_c Q39_ok hL5 (e5 c0 c1) hr hk))
  · simp at h
noncomputable def Q5 : Qt := qcons 5 q5 Q39
theorem Q5_ok : QOk (frzR R) Q5 := qcons_ok t5 Q39_ok
end Go.Proofs.YtihfaondfmeglaaDevices
